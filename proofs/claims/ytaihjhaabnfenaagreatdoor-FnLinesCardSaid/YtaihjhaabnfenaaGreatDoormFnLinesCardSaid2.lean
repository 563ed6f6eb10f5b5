/- Part 2 of the texts of the claim FnLinesCardSaid: an interpreter of the translated code over data, proved sound; the contracts of the functions; the same in plain words. -/
import Derived.Test.YtaihjhaabnfenaaGreatDoormFnLinesCardSaid1
import Derived.SizedLaws
import Derived.OpenShut
import Derived.Carry
import Derived.Sort.OwnSorted
import Derived.Lib.SlicesCompact
import Derived.Test.YtaihjhaabnfenaaGreatDoorChecked
import Derived.WalkKit
import Derived.Deep.LoopGhost
import Derived.Deep.RegionLaw
import Derived.Lib.Walk
import Derived.Lib.SliceRun
import Derived.Lib.Overlaps
import Derived.Laws.IdiomCopy
import Derived.Shelf.Spec.SlicesInsertGrow
import Derived.Lib.SplitLaws
import Derived.Lib.Join
import Derived.Lib.Atoi
import Derived.Lib.ItoaNum
import Derived.Shelf.Strings.Builder1
import Derived.Shelf.Strings.Builder2
import Derived.Shelf.Strings.OnBuilder
import Derived.Shelf.Small.Bits
import Derived.Shelf.Strconv.Atoi
import Derived.Shelf.Strconv.Itoa0
import Derived.Shelf.Strconv.Itoa1
import Derived.Shelf.LaysM
import Derived.Shelf.Strconv.Itoa2
import Derived.Shelf.Strconv.Itoa3
import Derived.Shelf.Strings.Search1
import Derived.Shelf.Strings.Search2
import Derived.Shelf.Strings.Search3
import Derived.Shelf.Strings.Cut
import Derived.Shelf.Strings.Count
import Derived.Shelf.Strings.Shaped
import Derived.Shelf.Sort.Plain
import Derived.Shelf.Strings.Split
import Derived.Shelf.Unicode.DecodeSlow
import Derived.Shelf.Unicode.DecodeAny
import Derived.Shelf.Slices.Turned
import Derived.Shelf.Slices.Equal
import Derived.Ground.Names2Prog
import Derived.Shelf.Slices.Clone
import Derived.Shelf.Slices.CompactS
import Derived.Shelf.Slices.Cells
import Derived.Shelf.Slices.In.SortNone
import Derived.Shelf.Slices.In.SortNone2
import Derived.Shelf.Slices.Empties2
import Derived.Ground.SlgnProg
import Derived.Shelf.SlicesE.Clone
import Derived.Test.YtaihjhaabnfenaaGreatDoorProg
import Derived.Lib.AtoiErrMem
import Derived.StillTactics
import Derived.Shelf.SlSorted.Search
import Derived.Shelf.Abstract
set_option linter.unusedVariables false
set_option linter.unusedSimpArgs false
namespace Go.MC
open Go.RowKit
theorem NH {F : Fx} {k : K} (hk : aX F k) {H : List (Nat × Ob)} (hS : k.h = lkH H) {t : Ty} {cs : List C} {x : t.den} {l : List Nat} (h : qx true t cs (t.den × List C × List Nat) ⟨[], H⟩ [] (fun p _ => some (p.1, p.2.1, p.2.2.map (·.1))) = some (x, [], l)) {vs : List Value} (hv : dw F k cs vs) :
 Rd k.w (k.okT F l) t x vs ∧ ∀ id ∈ l, ∃ e r xs d, k.h id = some (.arr e r xs d) ∧ dK id = false := by
 obtain ⟨p, R, ht, hr⟩ := (iL true t cs).tells h
 simp only [Option.some.injEq, Prod.mk.injEq] at hr
 obtain ⟨rfl, h2, rfl⟩ := hr
 obtain ⟨l1, u, v1, rfl, hr1, ht1, hd1, hf1, hz1⟩ := jJ hk (S := ⟨[], H⟩) hS (x := p.1) (rest := p.2.1) (obs := p.2.2) ht hv
 rw [h2] at hr1
 simp only [dw] at hr1
 subst hr1
 rw [List.append_nil]
 refine ⟨hd1.mono (fun b hb => gz (hz1 rfl) hb) (fun _ _ _ => rfl), fun id hi => ?_⟩
 obtain ⟨q, hq, rfl⟩ := List.mem_map.1 hi
 obtain ⟨e, r, xs, d, h3, _, _, h4⟩ := hf1 q hq
 exact ⟨e, r, xs, d, h3, h4⟩
theorem lN.mono {w : World} {ok ok' : Nat → Prop} {base : Nat} (ho : ∀ c, ok c → ok' c) : ∀ {t : Ty} {x : t.den} {es : List (Nat × Option (List Nat))} {vs : List Value} {es' : List (Nat × Option (List Nat))} {os : List Nat}, lN w ok base t x es vs es' os → lN w ok' base t x es vs es' os
 | .bool, _, _, _, _, _, h => h
 | .int _, _, _, _, _, _, h => h
 | .str, _, _, _, _, _, h => h
 | .slice r, _, _, _, _, _, h => by
  obtain ⟨e, h1, ⟨hne, v, us, bl, h2, h3, h4, h5, h6⟩ | ⟨he, h2, h3⟩⟩ := h
  ·exact ⟨e, h1, .inl ⟨hne, v, us, bl, h2, h3, h4.mono ho, h5, h6⟩⟩
  ·exact ⟨e, h1, .inr ⟨he, h2.mono ho (fun _ _ _ => rfl), h3⟩⟩
 | .pair _ _, _, _, _, _, _, h => by
  obtain ⟨v1, v2, es1, o1, o2, rfl, h1, h2, rfl⟩ := h
  exact ⟨v1, v2, es1, o1, o2, rfl, h1.mono ho, h2.mono ho, rfl⟩
theorem vX {F : Fx} {k : K} (hk : aX F k) {H : List (Nat × Ob)} (hS : k.h = lkH H) : ∀ {rs : List RS} {vs : List V1} {ds : List Dv} {ids tk : List Nat}, yc H rs vs = some (ds, ids, tk) → ∀ {vals : List Value}, jq F k vs vals →
 ((∀ id ∈ ids, ∃ e r xs o, k.h id = some (.arr e r xs (dpO o)) ∧ dK id = false) ∧ ∀ id ∈ tk, ∃ e r xs d, k.h id = some (.arr e r xs d) ∧ dK id = false) ∧ ∀ {ok' : Nat → Prop}, (∀ c, k.okT F tk c → ok' c) → ∀ rest, o5 k.w ok' 0 rs vals (ds ++ rest) rest (ww k ids)
 | [], [], ds, ids, tk, h, vals, hv => by
  simp only [yc, Option.some.injEq, Prod.mk.injEq] at h
  obtain ⟨rfl, rfl, rfl⟩ := h
  simp only [jq] at hv
  subst hv
  exact ⟨⟨fun _ h => by simp at h, fun _ h => by simp at h⟩, fun _ _ => ⟨rfl, rfl, rfl⟩⟩
 | [], _ :: _, ds, ids, tk, h, vals, hv => by simp [yc] at h
 | .any :: rs, [], ds, ids, tk, h, vals, hv => by simp [yc] at h
 | .d t agg :: rs, [], ds, ids, tk, h, vals, hv => by simp [yc] at h
 | .own t agg es :: rs, [], ds, ids, tk, h, vals, hv => by simp [yc] at h
 | .any :: rs, v :: vs, ds, ids, tk, h, vals, hv => by
  obtain ⟨x, xs, rfl, h1, h2⟩ := hv
  simp only [yc] at h
  obtain ⟨h3, h4⟩ := vX hk hS h h2
  exact ⟨h3, fun ho rest => ⟨x, xs, rfl, h4 ho rest⟩⟩
 | .d t agg :: rs, v :: vs, ds, ids, tk, h, vals, hv => by
  obtain ⟨x, xs, rfl, h1, h2⟩ := hv
  have hsh : ∃ cells, dw F k v.cells cells ∧ shape agg cells x ∧ (match qx true t v.cells (t.den × List C × List Nat) ⟨[], H⟩ [] (fun p _ => some (p.1, p.2.1, p.2.2.map (·.1))), yc H rs vs with
   | some (x, [], l), some z => some ((⟨t, x⟩ :: z.1, z.2.1, l ++ z.2.2) : List Dv × List Nat × List Nat)
   | _, _ => none) = some (ds, ids, tk) := by
   cases agg with
   | true =>
    cases v with
    | one c => simp [yc] at h
    | agg cs =>
     obtain ⟨cells, h3, h4⟩ := qw h1
     exact ⟨cells, h4, h3, h⟩
   | false =>
    cases v with
    | one c => exact ⟨[x], ⟨x, [], rfl, h1, rfl⟩, by simp [shape], h⟩
    | agg cs => simp [yc] at h
  obtain ⟨cells, h3, h4, h⟩ := hsh
  split at h
  ·rename_i y l z hp hz
   obtain ⟨z1, z2, z3⟩ := z
   simp only [Option.some.injEq, Prod.mk.injEq] at h
   obtain ⟨rfl, rfl, rfl⟩ := h
   obtain ⟨hrd, hla⟩ := NH hk hS hp h3
   obtain ⟨h5, h6⟩ := vX hk hS hz h2
   refine ⟨⟨h5.1, fun id hi => (List.mem_append.1 hi).elim (hla id) (h5.2 id)⟩, fun {ok'} ho rest => ⟨x, xs, y, z1 ++ rest, cells, rfl, rfl, hrd.mono (fun c hc => ho c (gz (fun i hi => List.mem_append.2 (.inl hi)) hc)) (fun _ _ _ => rfl), h4, h6 (fun c hc => ho c (gz (fun i hi => List.mem_append.2 (.inr hi)) hc)) rest⟩⟩
  ·cases h
 | .own t agg es :: rs, v :: vs, ds, ids, tk, h, vals, hv => by
  obtain ⟨x, xs, rfl, h1, h2⟩ := hv
  have hsh : ∃ cells, dw F k v.cells cells ∧ shape agg cells x ∧ (match qY H t v.cells es, yc H rs vs with
   | some (x, [], [], ids), some z => some ((⟨t, x⟩ :: z.1, ids ++ z.2.1, z.2.2) : List Dv × List Nat × List Nat)
   | _, _ => none) = some (ds, ids, tk) := by
   cases agg with
   | true =>
    cases v with
    | one c => simp [yc] at h
    | agg cs =>
     obtain ⟨cells, h3, h4⟩ := qw h1
     exact ⟨cells, h4, h3, h⟩
   | false =>
    cases v with
    | one c => exact ⟨[x], ⟨x, [], rfl, h1, rfl⟩, by simp [shape], h⟩
    | agg cs => simp [yc] at h
  obtain ⟨cells, h3, h4, h⟩ := hsh
  split at h
  ·rename_i y i1 z hp hz
   obtain ⟨z1, z2, z3⟩ := z
   simp only [Option.some.injEq, Prod.mk.injEq] at h
   obtain ⟨rfl, rfl, rfl⟩ := h
   obtain ⟨u, w, rfl, g1, g2, g3⟩ := Dz hk hS hp h3
   simp only [dw] at g1
   subst g1
   rw [List.append_nil] at h4
   obtain ⟨h5, h6⟩ := vX hk hS hz h2
   refine ⟨⟨fun id hi => ?_, h5.2⟩, fun {ok'} ho rest => ⟨x, xs, y, z1 ++ rest, u, ww k i1, ww k z2, rfl, rfl, g3.mono (fun c hc => ho c (.inl hc)), h4, h6 ho rest, by simp [ww]⟩⟩
   rcases List.mem_append.1 hi with hi | hi
   ·exact g2 id hi
   ·exact h5.1 id hi
  ·cases h
theorem nN {F : Fx} {k : K} (hk : aX F k) {H : List (Nat × Ob)} (hS : k.h = lkH H) : ∀ {ps : List PS} {bxs : List (Nat × Hd)} {ds : List Dv} {tk : List Nat}, UG ps bxs → ZG H bxs = some (ds, tk) →
 (∀ id ∈ tk, ∃ e r xs d, k.h id = some (.arr e r xs d) ∧ dK id = false) ∧ (∀ p ∈ bxs, Oq p.2 = false → MB k p) ∧ ∀ {ok' : Nat → Prop}, (∀ c, k.okT F tk c → ok' c) → BX k.w ok' ps (bxs.map (hvK k)) ds (bxs.flatMap (bkK k))
 | [], bxs, ds, tk, hb, h => by
  have hb : bxs = [] := hb
  subst hb
  simp only [ZG, Option.some.injEq, Prod.mk.injEq] at h
  obtain ⟨rfl, rfl⟩ := h
  exact ⟨fun _ h => by simp at h, fun _ h => by simp at h, fun _ => ⟨rfl, rfl, rfl⟩⟩
 | .d _ _ :: ps, bxs, ds, tk, hb, h => nN (ps := ps) hk hS hb h
 | .cl _ _ :: _, bxs, ds, tk, hb, h => hb.elim
 | .cr _ _ :: _, bxs, ds, tk, hb, h => hb.elim
 | .rx _ :: ps, bxs, ds, tk, hb, h => nN (ps := ps) hk hS hb h
 | .sp _ :: _, bxs, ds, tk, hb, h => hb.elim
 | .mv e r o :: ps, bxs, ds, tk, hb, h => by
  obtain ⟨id, l, rfl, hb⟩ := hb
  simp only [ZG] at h
  obtain ⟨h5, h7, h6⟩ := nN (ps := ps) hk hS hb h
  refine ⟨h5, fun p hp => ?_, fun {ok'} ho => ⟨_, rfl, h6 ho⟩⟩
  rcases List.mem_cons.1 hp with rfl | hp
  ·exact fun h => by cases h
  ·exact h7 p hp
 | .bx t :: ps, bxs, ds, tk, hb, h => by
  obtain ⟨id, l, rfl, hb⟩ := hb
  simp only [ZG] at h
  rw [← hS] at h
  split at h
  ·rename_i cs hid
   split at h
   ·rename_i y l1 z hp hz
    obtain ⟨z1, z2⟩ := z
    simp only [Option.some.injEq, Prod.mk.injEq] at h
    obtain ⟨rfl, rfl⟩ := h
    obtain ⟨vs, T, h1, h2⟩ := hk.obj id _ hid
    obtain ⟨hrd, hla⟩ := NH hk hS hp h2
    obtain ⟨h5, h7, h6⟩ := nN (ps := ps) hk hS hb hz
    refine ⟨fun i hi => (List.mem_append.1 hi).elim (hla i) (h5 i), fun p hp => ?_, fun {ok'} ho => ⟨k.μ id, _, y, z1, vs, T, _, rfl, rfl, rfl, h1, hrd.mono (fun c hc => ho c (gz (fun i hi => List.mem_append.2 (.inl hi)) hc)) (fun _ _ _ => rfl), h6 (fun c hc => ho c (gz (fun i hi => List.mem_append.2 (.inr hi)) hc))⟩⟩
    rcases List.mem_cons.1 hp with rfl | hp
    ·exact fun _ => ⟨cs, hid⟩
    ·exact h7 p hp
   ·cases h
  ·cases h
 | .ow e r o :: ps, bxs, ds, tk, hb, h => by
  obtain ⟨id, l, rfl, hb⟩ := hb
  simp only [ZG] at h
  rw [← hS] at h
  split at h
  ·rename_i e' r' xs d hid
   cases hc : (Nat.beq e' e && aai d o) with
   | false => rw [hc] at h; cases h
   | true =>
    rw [hc] at h
    simp only [cond_true] at h
    split at h
    ·rename_i y z hp hz
     obtain ⟨z1, z2⟩ := z
     simp only [Option.some.injEq, Prod.mk.injEq] at h
     obtain ⟨rfl, rfl⟩ := h
     simp only [Bool.and_eq_true] at hc
     obtain rfl := Nat.eq_of_beq_eq_true hc.1
     obtain rfl := O5 hc.2
     obtain ⟨he, rfl⟩ := eY hp
     injection he with he
     subst he
     obtain ⟨us, bl, g1, g2, g3, _, _, g4⟩ := aao hk hid
     obtain ⟨h5, h7, h6⟩ := nN (ps := ps) hk hS hb hz
     refine ⟨h5, fun p hp => ?_, fun {ok'} ho => ⟨k.ν id, _, xs, z1, us, bl, _, rfl, rfl, by rw [g4]; rfl, iy g1 (Nat.zero_le _), (g2.base (Nat.zero_le _)).mono fun c hc => ho c (.inl hc), g3, h6 ho⟩⟩
     rcases List.mem_cons.1 hp with rfl | hp
     ·exact fun _ => ⟨_, hid⟩
     ·exact h7 p hp
    ·cases h
  ·cases h
theorem KI : ∀ {l : List (Nat × Hd)} {p : Nat × Hd}, p ∈ l → Oq p.2 = false → p.1 ∈ aa1 l
 | [], _, h, _ => by simp at h
 | (i, hd) :: l, p, h, hm => by
  simp only [aa1]
  rcases List.mem_cons.1 h with rfl | h
  ·rw [hm]; simp
  ·have := KI h hm
   cases Oq hd <;> simp [this]
def Xh : List Lie → Nat → Lie
 | [], _ => ⟨0, 0, .slice none 0 0, []⟩
 | x :: l, i => if x.n = i then x else Xh l i
theorem Vf : ∀ {l : List Lie}, (l.map Lie.n).Nodup → ∀ {x : Lie}, x ∈ l → Xh l x.n = x
 | [], _, x, h => by simp at h
 | y :: l, hn, x, h => by
  simp only [List.map_cons, List.nodup_cons] at hn
  simp only [Xh]
  rcases List.mem_cons.1 h with rfl | h
  ·simp
  ·rw [if_neg (fun e => hn.1 (List.mem_map.2 ⟨x, h, e.symm⟩))]
   exact Vf hn.2 h
theorem afK {F : Fx} {k : K} (hk : aX F k) {id e : Nat} {r : Ty} {xs : List r.den} {o : Option (List Nat)} (h : k.h id = some (.arr e r xs (dpO o))) : (ZP k id).Nodup := by
 obtain ⟨us, bl, _, _, _, _, h1, h2⟩ := aao hk h
 rw [ahV h, ← h2]
 exact h1
section mem
variable {P : Program}
theorem acs {TT : Nat → Option TD} {Φ : Nat → Option ax} {inl : (ρ : Type) → Nat → List AV → List (Nat × Ob) → (AV → List (Nat × Ob) → Option ρ) → Option ρ} {N : Nat} (hTT : BC P TT) (hΦ : ed P Φ) (hinl : GL P inl) (hm : P.follows .mixedOrders = true)
 {g : Nat} {f : FI} (hf : bZ P g f) {s : ax} (hl : s.ps.length ≤ f.ntmps) (hrun : ∀ ds, Q9 (rQ s.ps) ds → s.pre ds = true → ∃ (R : Type) (d : List Dv → Option R) (r : R), bg d TT Φ inl N f s ds = some r ∧ ∀ ds', d ds' = some r → ds' = s.out ds) : ay P g s := by
 refine ⟨fun args w => hf.calls args w, fun w ok args fargs ds hv0 bs hfv ha hbn hbr hok hgv hpre => ?_⟩
 obtain ⟨R0, d0, r0, hr, hout⟩ := hrun ds (mY ha) hpre
 unfold bg at hr
 split at hr
 case h_2 => cases hr
 rename_i pz hpars
 obtain ⟨avs, H, bxs⟩ := pz
 obtain ⟨lies, g1, g2, g3, g4, g5, g6, g7⟩ := qf hpars ha
 dsimp only at hr
 split at hr
 case h_2 => cases hr
 rename_i avs' hun
 let F : Fx := ⟨w.heap.size, ok, (· ∈ bs), w, hok, fun b h1 h2 => (hbr b h2).2 h1, hgv⟩
 let k0 : K := ⟨w, lkH H, fun i => (Xh lies i).μ, fun i => (Xh lies i).ν, fun i => (Xh lies i).nb⟩
 have hlie : ∀ x ∈ lies, avG k0 x := by
  intro x hx
  have := Vf (by rw [g2]; exact g5) hx
  exact ⟨congrArg Lie.μ this, congrArg Lie.ν this, congrArg Lie.nb this⟩
 have hH : ∀ p ∈ H, k0.h p.1 = some p.2 := fun p hp => ng (by rw [g1]; exact g5) hp
 obtain ⟨hrel, hobj, hhv, hin, hbsq⟩ := g7 (F := F) (k := k0) rfl (fun c hc => .inl hc) hH hlie hbn
 have hown : ∀ i c, k0.own i c → ∃ p ∈ bxs, p.1 = i ∧ c ∈ bsK k0 p := by
  intro i c h
  have h0 := h
  unfold K.own at h
  cases hi : k0.h i with
  | none => rw [hi] at h; exact h.elim
  | some o =>
   have hmem := jc (show lkH H i = some o from hi)
   have : i ∈ bxs.map (·.1) := by rw [← g1]; exact List.mem_map.2 ⟨_, hmem, rfl⟩
   obtain ⟨p, hp, rfl⟩ := List.mem_map.1 this
   exact ⟨p, hp, rfl, (vM (hin p hp) c).1 h0⟩
 have hk0 : aX F k0 := by
  refine ⟨fun i o h => hobj (i, o) (jc h), fun i j c h1 h2 => ?_, fun i c h => ?_, fun _ _ _ => rfl, Nat.le_refl _, rfl, rfl, rfl⟩
  ·obtain ⟨p, hp, rfl, h3⟩ := hown i c h1
   obtain ⟨q, hq, rfl, h4⟩ := hown j c h2
   rw [rM (by rw [hbsq]; exact hbn) hp hq h3 h4]
  ·obtain ⟨p, hp, rfl, h3⟩ := hown i c h
   have : c ∈ bs := by rw [← hbsq]; exact List.mem_flatMap.2 ⟨p, hp, h3⟩
   exact ⟨.inr this, (hbr c this).1⟩
 obtain ⟨hrel', hlen⟩ := lm hun hfv hrel
 refine Ua hTT hΦ hinl hm hf hr (F := F) (k := k0) hk0 rfl hrel' (by rw [hlen]; exact hl) ?_
 intro v av k' H' hkx hS' hk' hle hv
 unfold kT at hkx
 split at hkx
 case h_2 => cases hkx
 rename_i ds' hkx'
 replace hkx : awI s bxs av H' = some (s.out ds) := by rw [← hout ds' hkx]; exact hkx'
 unfold awI at hkx
 split at hkx
 case h_2 => cases hkx
 rename_i l hl'
 split at hkx
 case h_2 => cases hkx
 rename_i z b hz hb
 obtain ⟨z1, ids, tk⟩ := z
 obtain ⟨b1, btk⟩ := b
 dsimp only at hkx
 cases hc : (xn ids && NS ids (tk ++ btk)) with
 | false => rw [hc] at hkx; cases hkx
 | true =>
  rw [hc] at hkx
  simp only [cond_true, Option.some.injEq] at hkx
  simp only [Bool.and_eq_true] at hc
  obtain ⟨hnd, hdis⟩ := hc
  have hnd := o9 hnd
  obtain ⟨vals, hvals, hvrel⟩ : ∃ vals, v = y5 vals ∧ jq F k' l vals := by
   cases av with
   | w v1 =>
    simp only [AV.list, Option.some.injEq] at hl'
    subst hl'
    exact ⟨[v], rfl, v, [], rfl, hv, rfl⟩
   | tup vs =>
    obtain ⟨xs, rfl, hx⟩ := hv
    cases vs with
    | nil =>
     simp only [AV.list, Option.some.injEq] at hl'
     subst hl'
     simp only [jq] at hx
     subst hx
     exact ⟨[], rfl, rfl⟩
    | cons v1 vs =>
     cases vs with
     | nil => simp [AV.list] at hl'
     | cons v2 vs =>
      simp only [AV.list, Option.some.injEq] at hl'
      subst hl'
      have hx0 := hx
      obtain ⟨x1, xs1, rfl, _, hx⟩ := hx
      obtain ⟨x2, xs2, rfl, _, hx⟩ := hx
      exact ⟨_, rfl, hx0⟩
  obtain ⟨⟨harr, hta⟩, hres⟩ := vX hk' hS' hz hvrel
  obtain ⟨htb, hin', hbox⟩ := nN hk' hS' g6 hb
  have hblk : ∀ c, c ∈ ww k' ids ↔ ∃ id ∈ ids, k'.own id c := by
   intro c
   unfold ww
   rw [List.mem_flatMap]
   constructor
   ·rintro ⟨id, hi, h1⟩
    obtain ⟨e, r, xs, o, h2, _⟩ := harr id hi
    exact ⟨id, hi, (Fp h2 c).2 h1⟩
   ·rintro ⟨id, hi, h1⟩
    obtain ⟨e, r, xs, o, h2, _⟩ := harr id hi
    exact ⟨id, hi, (Fp h2 c).1 h1⟩
  have hbk : ∀ p ∈ bxs, ∀ c, c ∈ bkK k' p ↔ (Oq p.2 = false ∧ k'.own p.1 c) := by
   intro p hp c
   obtain ⟨pi, pd⟩ := p
   cases pd with
   | mv e r o => simp [bkK, Oq]
   | bx t =>
    have := vM (hin' _ hp rfl) c
    constructor
    ·exact fun h => ⟨rfl, this.2 h⟩
    ·exact fun h => this.1 h.2
   | ow e r o =>
    have := vM (hin' _ hp rfl) c
    constructor
    ·exact fun h => ⟨rfl, this.2 h⟩
    ·exact fun h => this.1 h.2
  have hbsm : ∀ c, c ∈ bxs.flatMap (bkK k') ↔ ∃ p ∈ bxs, Oq p.2 = false ∧ k'.own p.1 c := by
   intro c
   rw [List.mem_flatMap]
   constructor
   ·rintro ⟨p, hp, h1⟩
    exact ⟨p, hp, (hbk p hp c).1 h1⟩
   ·rintro ⟨p, hp, h1⟩
    exact ⟨p, hp, (hbk p hp c).2 h1⟩
  have hrng : ∀ id c, k'.own id c → (w.heap.size ≤ c ∨ c ∈ bs) ∧ c < k'.w.heap.size := fun id c h => hk'.rng id c h
  -- a result's array, or one that is taken, is none that comes back
  have hne : ∀ id, (∃ e r xs d, k'.h id = some (.arr e r xs d) ∧ dK id = false) → ∀ p ∈ bxs, Oq p.2 = false → id ≠ p.1 := by
   rintro id ⟨e, r, xs, d, h1, h2⟩ p hp hm rfl
   have h3 := hin' p hp hm
   obtain ⟨pi, pd⟩ := p
   cases pd with
   | bx t =>
    obtain ⟨cs, h4⟩ := h3
    dsimp only at h1 h4
    rw [h1] at h4
    cases h4
   | mv e' r' o' => cases hm
   | ow e' r' o' =>
    rcases g4 _ hp with ⟨j, _, _, _, h4⟩ | ⟨j, _, h4, h5, _⟩ | ⟨j, _, _, _, h4⟩
    ·cases h4
    ·have := Xn (i := j) (Nat.ble_eq_true_of_le (by omega))
     dsimp only at h2 h5
     rw [← h5, h2] at this
     cases this
    ·cases h4
  have harr' : ∀ id ∈ ids, ∃ e r xs d, k'.h id = some (.arr e r xs d) ∧ dK id = false := fun id hi => by
   obtain ⟨e, r, xs, o, h1, h2⟩ := harr id hi
   exact ⟨e, r, xs, _, h1, h2⟩
  have hokT : ∀ (tk' : List Nat), (∀ i ∈ tk', i ∈ tk ++ btk) → ∀ c, k'.okT F tk' c → ok c ∨ ((w.heap.size ≤ c ∨ c ∈ bs) ∧ c < k'.w.heap.size ∧ c ∉ ww k' ids ++ bxs.flatMap (bkK k')) := by
   rintro tk' hsub c (hc | ⟨id, hi, ho⟩)
   ·rcases hc with hc | ⟨h1, h2, h3⟩
    ·exact .inl hc
    ·refine .inr ⟨h1, h2, fun hm => ?_⟩
     rcases List.mem_append.1 hm with hm | hm
     ·obtain ⟨id, _, ho⟩ := (hblk c).1 hm
      exact h3 id ho
     ·obtain ⟨p, _, _, ho⟩ := (hbsm c).1 hm
      exact h3 _ ho
   ·have ha : ∃ e r xs d, k'.h id = some (.arr e r xs d) ∧ dK id = false := (List.mem_append.1 (hsub id hi)).elim (hta id) (htb id)
    have hrg := hrng id c ho
    refine .inr ⟨hrg.1, hrg.2, fun hm => ?_⟩
    rcases List.mem_append.1 hm with hm | hm
    ·obtain ⟨id2, hi2, ho2⟩ := (hblk c).1 hm
     obtain rfl := hk'.inj id2 id c ho2 ho
     exact uf hdis hi2 (hsub _ hi)
    ·obtain ⟨p, hp, hmv, ho2⟩ := (hbsm c).1 hm
     exact hne id ha p hp hmv (hk'.inj id p.1 c ho ho2)
  have hhv' : bxs.map (hvK k') = hv0 := by
   rw [← hhv]
   refine List.map_congr_left fun p hp => ?_
   have h1 := hin p hp
   have h2 := hin' p hp
   obtain ⟨pi, pd⟩ := p
   cases pd with
   | mv e r o => rfl
   | bx t =>
    obtain ⟨cs, h3⟩ := h1
    show HV.bx (k'.μ pi) = HV.bx (k0.μ pi)
    rw [(hle.box pi (KI hp rfl) cs h3).2]
   | ow e r o =>
    obtain ⟨xs, h3⟩ := h1
    obtain ⟨xs', h4⟩ := h2 rfl
    show HV.ow (k'.ν pi) = HV.ow (k0.ν pi)
    rcases hle.arr pi (KI hp rfl) _ _ _ _ h3 with ⟨_, _, h5, _, h6⟩ | ⟨_, _, h5, _⟩ | h5
    ·rw [h6]
    ·dsimp only at h4
     rw [h4] at h5; cases h5
    ·dsimp only at h4
     rw [h4] at h5; cases h5
  have hbox := hbox (ok' := fun c => ok c ∨ ((w.heap.size ≤ c ∨ c ∈ bs) ∧ c < k'.w.heap.size ∧ c ∉ ww k' ids ++ bxs.flatMap (bkK k'))) (hokT btk fun i hi => List.mem_append.2 (.inr hi))
  rw [hhv'] at hbox
  have hres := hres (ok' := fun c => ok c ∨ ((w.heap.size ≤ c ∨ c ∈ bs) ∧ c < k'.w.heap.size ∧ c ∉ ww k' ids ++ bxs.flatMap (bkK k'))) (hokT tk fun i hi => List.mem_append.2 (.inl hi)) b1
  rw [hkx] at hres
  have hbnd : (ww k' ids).Nodup := by
   have : ∀ {l : List Nat}, l.Nodup → (∀ id ∈ l, ∃ e r xs o, k'.h id = some (.arr e r xs (dpO o)) ∧ dK id = false) → (ww k' l).Nodup := by
    intro l
    induction l with
    | nil => exact fun _ _ => List.nodup_nil
    | cons i l ih =>
     intro h1 h2
     obtain ⟨h3, h4⟩ := List.nodup_cons.1 h1
     obtain ⟨e1, r1, xs1, o1, h7, _⟩ := h2 i (by simp)
     have e : ww k' (i :: l) = ZP k' i ++ ww k' l := by simp [ww]
     rw [e]
     refine List.nodup_append.2 ⟨afK hk' h7, ih h4 fun id hi => h2 id (by simp [hi]), fun c h5 c' h6 hcc => ?_⟩
     subst hcc
     unfold ww at h6
     obtain ⟨j, hj, h8⟩ := List.mem_flatMap.1 h6
     obtain ⟨e2, r2, xs2, o2, h9, _⟩ := h2 j (by simp [hj])
     exact h3 (hk'.inj i j c ((Fp h7 c).2 h5) ((Fp h9 c).2 h8) ▸ hj)
   exact this hnd harr
  have hbxn : (bxs.flatMap (bkK k')).Nodup := by
   have : ∀ {bx : List (Nat × Hd)}, (∀ p ∈ bx, Oq p.2 = false → MB k' p) → (∀ p ∈ bx, ∀ c, c ∈ bkK k' p ↔ (Oq p.2 = false ∧ k'.own p.1 c)) → (bx.map (·.1)).Nodup → (bx.flatMap (bkK k')).Nodup := by
    intro bx
    induction bx with
    | nil => exact fun _ _ _ => List.nodup_nil
    | cons p bx ih =>
     intro h1 h0 h2
     simp only [List.map_cons, List.nodup_cons] at h2
     rw [List.flatMap_cons]
     refine List.nodup_append.2 ⟨?_, ih (fun q hq => h1 q (by simp [hq])) (fun q hq => h0 q (by simp [hq])) h2.2, fun c hc c' hc' hcc => ?_⟩
     ·obtain ⟨pi, pd⟩ := p
      cases pd with
      | mv e r o => exact List.nodup_nil
      | bx t => exact L9 hk' (h1 _ List.mem_cons_self rfl)
      | ow e r o => exact L9 hk' (h1 _ List.mem_cons_self rfl)
     ·subst hcc
      obtain ⟨q, hq, h3⟩ := List.mem_flatMap.1 hc'
      have h4 := ((h0 p (by simp) c).1 hc).2
      have h5 := ((h0 q (by simp [hq]) c).1 h3).2
      exact h2.1 (List.mem_map.2 ⟨q, hq, hk'.inj q.1 p.1 _ h5 h4⟩)
   exact this hin' hbk g5
  refine ⟨vals, b1, ww k' ids, bxs.flatMap (bkK k'), by rw [hvals], hle.size, fun c hc hcb => hk'.frame c hc hcb, hk'.os, hk'.tape, hk'.output, List.nodup_append.2 ⟨hbnd, hbxn, fun c h1 c' h2 hcc => ?_⟩, fun c hc => ?_, fun c hc => ?_, hres, hbox⟩
  ·subst hcc
   obtain ⟨id, hi, ho⟩ := (hblk c).1 h1
   obtain ⟨p, hp, hm, ho2⟩ := (hbsm c).1 h2
   exact hne id (harr' id hi) p hp hm (hk'.inj id p.1 c ho ho2)
  ·obtain ⟨id, hi, ho⟩ := (hblk c).1 hc
   have := hrng id c ho
   exact this.1.elim (fun h => .inr ⟨h, this.2⟩) .inl
  ·obtain ⟨p, hp, _, ho⟩ := (hbsm c).1 hc
   have := hrng p.1 c ho
   exact this.1.elim (fun h => .inr ⟨h, this.2⟩) .inl
end mem
end Go.MC
namespace Go.MC
open Go.RowKit
def afo : Option Code → Code
 | some c => c
 | none => .skip
def G5 : Code → Nat → Nat → Bool
 | .seq a b, cur, t => G5 a cur t || G5 b cur t
 | .cond _ a b, cur, t => G5 a cur t || G5 b cur t
 | .block id c, _, t => G5 c id t
 | .loop _, cur, t => Nat.beq cur t
 | _, _, _ => false
def jl : Code → Nat → Nat → Code
 | .seq a b, cur, t => bif G5 a cur t then jl a cur t else jl b cur t
 | .cond _ a b, cur, t => bif G5 a cur t then jl a cur t else jl b cur t
 | .block id c, _, t => jl c id t
 | .loop c, _, _ => c
 | _, _, _ => .skip
noncomputable def fQ (E : Env) {ρ : Type} : Code → Nat → Nat → (X → St → Option ρ) → X → St → Option ρ
 | .seq a b, cur, t, k => bif G5 a cur t then fQ E a cur t (aym (code E b cur) k) else fQ E b cur t k
 | .cond _ a b, cur, t, k => bif G5 a cur t then fQ E a cur t k else fQ E b cur t k
 | .block id c, _, t, k => fQ E c id t (axj id k)
 | _, _, _, k => k
end Go.MC
namespace Go.MC
open Go.RowKit
def Jk : List C → List Value → Bool
 | [], [] => true
 | .u :: cs, _ :: vs => Jk cs vs
 | .emp :: cs, .slice none 0 0 :: vs => Jk cs vs
 | .v .bool b :: cs, .bool c :: vs => decide (b = c) && Jk cs vs
 | .v (.int k) n :: cs, .int j m :: vs => decide (j = k) && (decide (m = n) && (acj k n && Jk cs vs))
 | .v .str s :: cs, .string t :: vs => decide (t.data.toList = s) && (Nat.ble s.length lim && Jk cs vs)
 | _, _ => false
theorem ai_ {F : Fx} {k : K} : ∀ {cs : List C} {vs : List Value}, Jk cs vs = true → dw F k cs vs := by
 intro cs vs h
 induction cs generalizing vs with
 | nil =>
  cases vs with
  | nil => rfl
  | cons v vs => simp [Jk] at h
 | cons c cs ih =>
  unfold Jk at h
  split at h
  ·rename_i h1; cases h1
  ·rename_i h1; cases h1
   exact ⟨_, _, rfl, trivial, ih h⟩
  ·rename_i h1; cases h1
   exact ⟨_, _, rfl, rfl, ih h⟩
  ·rename_i b _ c _ h1; cases h1
   simp only [Bool.and_eq_true, decide_eq_true_eq] at h
   obtain ⟨rfl, h⟩ := h
   exact ⟨_, _, rfl, rfl, ih h⟩
  ·rename_i h1; cases h1
   simp only [Bool.and_eq_true, decide_eq_true_eq] at h
   obtain ⟨rfl, rfl, h2, h⟩ := h
   refine ⟨_, _, rfl, ⟨rfl, ?_⟩, ih h⟩
   simpa [acj, IntKind.has] using h2
  ·rename_i h1; cases h1
   simp only [Bool.and_eq_true, decide_eq_true_eq] at h
   obtain ⟨rfl, h2, h⟩ := h
   exact ⟨_, _, rfl, ⟨rfl, Nat.le_of_ble_eq_true h2⟩, ih h⟩
  ·cases h
def rdZ : Ty → List Value → Option (List Value)
 | .bool, .bool false :: vs => some vs
 | .int k, .int j m :: vs => bif decide (j = k) && decide (m = 0) then some vs else none
 | .str, .string s :: vs => bif decide (s.data.toList = []) then some vs else none
 | .slice _, .slice none 0 0 :: vs => some vs
 | .pair a b, vs => match rdZ a vs with
  | some vs' => rdZ b vs'
  | none => none
 | _, _ => none
theorem J8 {w : World} {ok : Nat → Prop} : ∀ {t : Ty} {vs rest : List Value}, rdZ t vs = some rest → ∃ u, vs = u ++ rest ∧ Rd w ok t t.dflt u
 | .bool, vs, rest, h => by
  unfold rdZ at h
  split at h
  all_goals first | (cases h; done) | skip
  ·rename_i h1; cases h; exact ⟨[_], rfl, rfl⟩
  all_goals (rename_i h1; cases h1)
 | .int k, vs, rest, h => by
  unfold rdZ at h
  split at h
  all_goals first | (cases h; done) | skip
  all_goals rename_i h1
  all_goals first | (cases h1; done) | skip
  injection h1 with h1
  subst h1
  rename_i j m vs
  cases hb : (decide (j = k) && decide (m = 0)) with
  | false => rw [hb] at h; cases h
  | true =>
   rw [hb] at h
   simp only [Bool.and_eq_true, decide_eq_true_eq] at hb
   obtain ⟨rfl, rfl⟩ := hb
   simp only [cond_true, Option.some.injEq] at h
   subst h
   exact ⟨[_], rfl, rfl, aaN _⟩
 | .str, vs, rest, h => by
  unfold rdZ at h
  split at h
  all_goals first | (cases h; done) | skip
  all_goals rename_i h1
  all_goals first | (cases h1; done) | skip
  rename_i s vs
  cases hb : decide (s.data.toList = []) with
  | false => rw [hb] at h; cases h
  | true =>
   rw [hb] at h
   have hb := of_decide_eq_true hb
   simp only [cond_true, Option.some.injEq] at h
   subst h
   refine ⟨[_], rfl, ?_, Nat.zero_le _⟩
   obtain ⟨⟨l⟩⟩ := s
   have hb : l = [] := hb
   subst hb
   rfl
 | .slice r, vs, rest, h => by
  unfold rdZ at h
  split at h
  all_goals first | (cases h; done) | skip
  all_goals rename_i h1
  all_goals first | (cases h1; done) | skip
  all_goals first | (cases h; exact ⟨[_], rfl, Rd.nil _ _ _⟩) | skip
 | .pair a b, vs, rest, h => by
  simp only [rdZ] at h
  split at h
  ·rename_i vs' h1
   obtain ⟨u, rfl, h2⟩ := J8 (w := w) (ok := ok) h1
   obtain ⟨v, rfl, h3⟩ := J8 (w := w) (ok := ok) h
   exact ⟨u ++ v, by simp, u, v, rfl, h2, h3⟩
  ·cases h
theorem ZH {w : World} {ok : Nat → Prop} {base : Nat} : ∀ {t : Ty} {vs rest : List Value} {ns : List Nat}, rdZ t vs = some rest → nsl t ≤ ns.length → ∃ u, vs = u ++ rest ∧ fZ w ok base t t.dflt ns u (ns.drop (nsl t)) []
 | .bool, vs, rest, ns, h, _ => by
  obtain ⟨u, h1, h2⟩ := J8 (w := w) (ok := ok) h
  exact ⟨u, h1, rfl, rfl, h2⟩
 | .int k, vs, rest, ns, h, _ => by
  obtain ⟨u, h1, h2⟩ := J8 (w := w) (ok := ok) h
  exact ⟨u, h1, rfl, rfl, h2⟩
 | .str, vs, rest, ns, h, _ => by
  obtain ⟨u, h1, h2⟩ := J8 (w := w) (ok := ok) h
  exact ⟨u, h1, rfl, rfl, h2⟩
 | .slice r, vs, rest, ns, h, hn => by
  cases ns with
  | nil => simp [nsl] at hn
  | cons e ns =>
   unfold rdZ at h
   split at h
   all_goals first | (cases h; done) | skip
   all_goals rename_i h1
   all_goals first | (cases h1; done) | skip
   all_goals first | (cases h; exact ⟨[_], rfl, e, _, [], rfl, rfl, .mt none, rfl, Nat.zero_le _, rfl⟩) | skip
 | .pair a b, vs, rest, ns, h, hn => by
  simp only [nsl] at hn
  simp only [rdZ] at h
  split at h
  ·rename_i vs' h1
   obtain ⟨u, rfl, h2⟩ := ZH (w := w) (ok := ok) (base := base) (ns := ns) h1 (by omega)
   obtain ⟨v, rfl, h3⟩ := ZH (w := w) (ok := ok) (base := base) (ns := ns.drop (nsl a)) h (by rw [List.length_drop]; omega)
   rw [List.drop_drop] at h3
   exact ⟨u ++ v, by simp, u, v, _, [], [], rfl, h2, h3, rfl⟩
  ·cases h
def tyB : Ty → TypeDesc → Nat → Bool
 | .bool, .bool, _ => true
 | .int k, .int j, _ => decide (j = k)
 | .str, .string, _ => true
 | .slice _, .slice e, n => Nat.beq e n
 | .pair _ _, _, _ => true
 | _, _, _ => false
def ayf (P : Program) (f : Nat × Nat) : Bool := match P.info? f.1 with
 | some ti => Nat.ble 1 ti.size
 | none => false
def avE : Option TypeDesc → Bool
 | some .string => true
 | _ => false
def aqH : Option TypeDesc → Bool
 | some .bool => true
 | _ => false
def avD (k : IntKind) : Option TypeDesc → Bool
 | some (.int j) => decide (j = k)
 | _ => false
def aiW (P : Program) : Nat → List Field → List Ty → Bool
 | _, [], [] => true
 | i, f :: fs, t :: ts => (f.name != "_") && (Nat.beq f.offset i && ((match t with
  | .bool => aqH (P.underlying f.type)
  | .str => avE (P.underlying f.type)
  | .int k => avD k (P.underlying f.type)
  | _ => false) && aiW P (i + 1) fs ts))
 | _, _, _ => false
def nsB (td : TD) : Bool := match td.ns with
 | [] => true
 | n :: ns => td.dat && Nat.beq (nsl td.ty) (n :: ns).length
def tdB (P : Program) (t : Nat) (td : TD) : Bool := match P.info? t, P.underlying t with
 | some ti, some d => (match ti.zero with
  | some z => Nat.beq ti.size td.sz && (Nat.beq ti.bytes td.bytes && (Nat.beq z.cells.size td.sz && (Jk td.zero z.cells.toList && ((bif td.dat then (match rdZ td.ty z.cells.toList with
   | some [] => true
   | _ => false) else true) && nsB td))))
  | none => false) && (tyB td.ty d td.elem && (Nat.ble 1 td.sz && ((match d with
  | .struct fs => td.agg && decide (fs.toList.map (fun f => (f.type, f.offset)) = td.flds)
  | .array _ _ => false
  | _ => !td.agg && (Nat.beq td.sz 1 && td.flds.isEmpty)) && (td.flds.all (ayf P) && (bif td.eqs.isEmpty then true else match d with
  | .struct fs => !P.stoodInHeld t && (!P.eqGuardType P.depth t && aiW P 0 fs.toList td.eqs)
  | _ => false)))))
 | _, _ => false
theorem ahO {P : Program} : ∀ {fs : List Field} {ts : List Ty} {i : Nat}, aiW P i fs ts = true → fs.length = ts.length ∧ ∀ (j : Nat) (f : Field), fs[j]? = some f → f.name ≠ "_" ∧ f.offset = i + j ∧ ((ts[j]? = some .bool ∧ P.underlying f.type = some .bool) ∨ (ts[j]? = some .str ∧ P.underlying f.type = some .string) ∨ ∃ k, ts[j]? = some (.int k) ∧ P.underlying f.type = some (.int k))
 | [], [], i, h => ⟨rfl, fun j f hj => by simp at hj⟩
 | [], _ :: _, i, h => by simp [aiW] at h
 | _ :: _, [], i, h => by simp [aiW] at h
 | f :: fs, t :: ts, i, h => by
  simp only [aiW, Bool.and_eq_true] at h
  obtain ⟨h1, h2, h3, h4⟩ := h
  obtain ⟨h5, h6⟩ := ahO h4
  refine ⟨by simp [h5], fun j g hj => ?_⟩
  cases j with
  | zero =>
   simp only [List.getElem?_cons_zero, Option.some.injEq] at hj
   subst hj
   refine ⟨by simpa using h1, by simpa using Nat.eq_of_beq_eq_true h2, ?_⟩
   cases t with
   | bool =>
    refine .inl ⟨rfl, ?_⟩
    simp only [aqH] at h3
    split at h3
    ·assumption
    ·cases h3
   | str =>
    refine .inr (.inl ⟨rfl, ?_⟩)
    simp only [avE] at h3
    split at h3
    ·assumption
    ·cases h3
   | int k =>
    refine .inr (.inr ⟨k, rfl, ?_⟩)
    simp only [avD] at h3
    split at h3
    ·rename_i j hj
     rw [hj, of_decide_eq_true h3]
    ·cases h3
   | slice r => cases h3
   | pair a b => cases h3
  | succ j =>
   have := h6 j g (by simpa using hj)
   rw [show i + (j + 1) = i + 1 + j by omega]
   simpa using this
theorem aw1 {P : Program} {t : Nat} {td : TD} (h : tdB P t td = true) : jR P t td := by
 unfold tdB at h
 split at h
 case h_2 => cases h
 rename_i ti d hi hu
 simp only [Bool.and_eq_true] at h
 obtain ⟨hz, hty, hp, ha, hf, he⟩ := h
 split at hz
 case h_2 => cases hz
 rename_i z hzz
 simp only [Bool.and_eq_true] at hz
 obtain ⟨h1, h2, h3, h4, h5, hns⟩ := hz
 refine ⟨⟨ti, z, hi, Nat.eq_of_beq_eq_true h1, Nat.eq_of_beq_eq_true h2, hzz, Nat.eq_of_beq_eq_true h3, fun F k => ai_ h4, fun hd w ok => ?_⟩, fun hg => ?_, fun hg => ?_, fun r hr => ?_, fun k hr => ?_, fun hr => ?_, fun hr => ?_, fun f hm => ?_, Nat.le_of_ble_eq_true hp, fun hne => ?_, fun hne => ?_⟩
 ·rw [hd] at h5
  simp only [cond_true] at h5
  split at h5
  ·rename_i hr
   obtain ⟨u, h6, h7⟩ := J8 (w := w) (ok := ok) hr
   rw [List.append_nil] at h6
   rw [h6]
   exact h7
  ·cases h5
 ·cases d with
  | struct fs =>
   simp only [Bool.and_eq_true, decide_eq_true_eq] at ha
   exact ⟨fs, hu, ha.2⟩
  | array n e => cases ha
  | _ => rw [hg] at ha; cases ha
 ·cases d with
  | struct fs => rw [hg] at ha; cases ha
  | array n e => cases ha
  | _ =>
   simp only [Bool.and_eq_true] at ha
   exact ⟨Nat.eq_of_beq_eq_true ha.2.1, by simpa using ha.2.2, _, hu, fun _ h => by (first | cases h | exact TypeDesc.noConfusion h), fun _ _ h => by (first | cases h | exact TypeDesc.noConfusion h)⟩
 ·rw [hr] at hty
  cases d with
  | slice e => rw [hu, Nat.eq_of_beq_eq_true hty]
  | _ => cases hty
 ·rw [hr] at hty
  cases d with
  | int j => rw [hu, of_decide_eq_true hty]
  | _ => cases hty
 ·rw [hr] at hty
  cases d with
  | string => exact hu
  | _ => cases hty
 ·rw [hr] at hty
  cases d with
  | bool => exact hu
  | _ => cases hty
 ·have := List.all_eq_true.1 hf f hm
  unfold ayf at this
  split at this
  ·rename_i ti' h6
   exact ⟨ti', h6, Nat.le_of_ble_eq_true this⟩
  ·cases this
 ·unfold nsB at hns
  split at hns
  ·rename_i h; exact absurd h hne
  ·rename_i n ns hn
   simp only [Bool.and_eq_true] at hns
   obtain ⟨hd, hl⟩ := hns
   have hl := Nat.eq_of_beq_eq_true hl
   rw [hd] at h5
   simp only [cond_true] at h5
   split at h5
   ·rename_i hr
    refine ⟨ti, z, hi, hzz, fun w ok base => ?_⟩
    obtain ⟨u, h6, h7⟩ := ZH (w := w) (ok := ok) (base := base) (ns := td.ns) hr (by rw [hn]; exact Nat.le_of_eq hl)
    rw [List.append_nil] at h6
    rw [List.drop_of_length_le (by rw [hn]; exact Nat.le_of_eq hl.symm)] at h7
    rw [h6]
    exact h7
   ·cases h5
 ·cases hb : td.eqs.isEmpty with
  | true => exact absurd (by simpa using hb) hne
  | false =>
   rw [hb] at he
   cases d with
   | struct fs =>
    simp only [cond_false, Bool.and_eq_true, Bool.not_eq_true'] at he
    obtain ⟨h6, h7⟩ := ahO he.2.2
    exact ⟨fs, hu, he.1, he.2.1, by simpa using h6, fun j f hj => by simpa using h7 j f hj⟩
   | _ => cases he
def az : List (Nat × TD) → Nat → Option TD
 | [], _ => none
 | (i, td) :: l, t => bif Nat.beq i t then some td else az l t
theorem anY {P : Program} : ∀ {l : List (Nat × TD)}, (l.all fun p => tdB P p.1 p.2) = true → BC P (az l)
 | [], _, t, td, h => by cases h
 | (i, d) :: l, hl, t, td, h => by
  simp only [List.all_cons, Bool.and_eq_true] at hl
  simp only [az] at h
  cases hb : Nat.beq i t with
  | true =>
   rw [hb] at h
   have := Nat.eq_of_beq_eq_true hb
   subst this
   simp only [cond_true, Option.some.injEq] at h
   subst h
   exact aw1 hl.1
  | false =>
   rw [hb] at h
   exact anY (by simpa using hl.2) t td h
end Go.MC
namespace Go.MC
open Go.RowKit
def gJ {α σ β : Type} (f : Nat → σ → α → Sum σ β) : Nat → List α → σ → Sum σ β
 | _, [], st => .inl st
 | i, x :: xs, st => match f i st x with
  | .inl st' => gJ f (i + 1) xs st'
  | .inr b => .inr b
end Go.MC
namespace Go.MC
open Go.RowKit
def iU (f : FI) (b : Nat) : Ann := match f.an b with
 | some a => a
 | none => ⟨⟨[], [], []⟩, [], ⟨[], [], []⟩⟩
def dN (TT : Nat → Option TD) (Φ : Nat → Option ax) (inl : (ρ : Type) → Nat → List AV → List (Nat × Ob) → (AV → List (Nat × Ob) → Option ρ) → Option ρ) (N : Nat) (f : FI) (ent : List Nat) : Env := { TT := TT, Φ := Φ, inl := inl, an := f.an, ent := ent, N := N }
end Go.MC
namespace Go.MC
open Go.RowKit
def lp {F : Type} (z : F) (rd : F → F) : Nat → F
 | 0 => z
 | n + 1 => rd (lp z rd n)
theorem bK {F : Type} {z : F} {rd : F → F} {g : Nat → F} (h0 : g 0 = z) (h : ∀ n, g (n + 1) = rd (g n)) : ∀ n, g n = lp z rd n
 | 0 => h0
 | n + 1 => (h n).trans (congrArg rd (bK h0 h n))
def iS {α : Type} (o : Option α) : Bool := o.isSome
def gS {α : Type} (o : Option α) (d : α) : α := o.getD d
def ob {α ρ : Type} (o : Option α) (d : α) (B : α → Option ρ) : Option ρ := bif iS o then B (gS o d) else none
def Fn : List Ty → Type → Type
 | [], ρ => ρ
 | t :: ts, ρ => t.den → Fn ts ρ
def X8 {ρ : Type} : (ts : List Ty) → Fn ts ρ → List Dv → Option ρ
 | [], f, [] => some f
 | [], _, _ :: _ => none
 | _ :: _, _, [] => none
 | t :: ts, f, d :: ds => match gy t d.1 d.2 with
  | some x => X8 ts (f x) ds
  | none => none
def apd {ρ : Type} : (ts : List Ty) → Fn ts ρ → (List Dv → ρ) → Prop
 | [], f, g => g [] = f
 | t :: ts, f, g => ∀ x : t.den, apd ts (f x) fun ds => g (⟨t, x⟩ :: ds)
theorem apd.app {ρ : Type} : ∀ {ts : List Ty} {f : Fn ts ρ} {g : List Dv → ρ}, apd ts f g → ∀ {ds : List Dv} {o : ρ}, X8 ts f ds = some o → g ds = o
 | [], f, g, h, [], o, ho => by
  have ho : some f = some o := ho
  cases ho
  exact h
 | [], f, g, h, _ :: _, o, ho => by cases ho
 | _ :: _, f, g, h, [], o, ho => by cases ho
 | t :: ts, f, g, h, ⟨t', x⟩ :: ds, o, ho => by
  simp only [X8] at ho
  split at ho
  ·rename_i y hy
   obtain ⟨he, rfl⟩ := eY hy
   subst he
   exact apd.app (h x) ho
  ·cases ho
@[reducible] def tupD : List Ty → Type
 | [] => Unit
 | [t] => t.den
 | t :: u :: ts => t.den × tupD (u :: ts)
def KC : (ts : List Ty) → tupD ts → List Dv
 | [], _ => []
 | [t], x => [⟨t, x⟩]
 | t :: u :: ts, x => ⟨t, x.1⟩ :: KC (u :: ts) x.2
def a_ : (ts : List Ty) → List Dv → Option (tupD ts)
 | [], [] => some ()
 | [], _ :: _ => none
 | _ :: _, [] => none
 | [t], d :: ds => match ds with
  | [] => gy t d.1 d.2
  | _ :: _ => none
 | t :: u :: ts, d :: ds => match gy t d.1 d.2 with
  | some x => match a_ (u :: ts) ds with
   | some y => some (x, y)
   | none => none
  | none => none
theorem agX : ∀ {ts : List Ty} {ds : List Dv} {r : tupD ts}, a_ ts ds = some r → ds = KC ts r
 | [], [], _, _ => rfl
 | [], _ :: _, _, h => by cases h
 | [t], [], _, h => by cases h
 | [t], [⟨t', x⟩], r, h => by
  obtain ⟨he, rfl⟩ := eY (show gy t t' x = some r from h)
  subst he
  rfl
 | [t], _ :: _ :: _, _, h => by cases h
 | t :: u :: ts, [], _, h => by cases h
 | t :: u :: ts, ⟨t', x⟩ :: ds, r, h => by
  simp only [a_] at h
  split at h
  ·rename_i y hy
   split at h
   ·rename_i z hz
    simp only [Option.some.injEq] at h
    subst h
    obtain ⟨he, rfl⟩ := eY hy
    subst he
    rw [agX hz]
    rfl
   ·cases h
  ·cases h
def dfD : (ts : List Ty) → tupD ts
 | [] => ()
 | [t] => t.dflt
 | t :: u :: ts => (t.dflt, dfD (u :: ts))
def SP.ty : SP → Ty
 | .dd t => t
 | .ow _ r _ => .slice r
 | .mv _ r _ => .slice r
def oJ : List PS → List Ty
 | [] => []
 | .d t _ :: ps => t :: oJ ps
 | .bx t :: ps => t :: oJ ps
 | .ow _ r _ :: ps => .slice r :: oJ ps
 | .mv _ r _ :: ps => .slice r :: oJ ps
 | .sp l :: ps => l.map SP.ty ++ oJ ps
 | .cl _ ts :: ps => ts ++ oJ ps
 | .rx t :: ps => t :: oJ ps
 | .cr _ ts :: ps => ts ++ oJ ps
def bJ (ps : List PS) (fz : Bool) (rs : List RS) : ax := ⟨ps, fz, fun _ => true, fun ds => ds, rs⟩
def aQ (ps : List PS) (fz : Bool) (rs : List RS) (ts : List Ty) (f : Fn (oJ ps) (Option (tupD ts))) : ax :=
 ⟨ps, fz, fun ds => match X8 (oJ ps) f ds with
  | some o => iS o
  | none => false, fun ds => match X8 (oJ ps) f ds with
  | some o => KC ts (gS o (dfD ts))
  | none => [], rs⟩
def aZ : List (Nat × ax) → Nat → Option ax
 | [], _ => none
 | p :: l, i => bif Nat.beq p.1 i then some p.2 else aZ l i
def ajP (P : Program) : List (Nat × ax) → Prop
 | [] => True
 | p :: l => ay P (p.1 % 100000) p.2 ∧ ajP P l
theorem aT {P : Program} {k g : Nat} {s : ax} {l : List (Nat × ax)} (h : k % 100000 = g) (hc : ay P g s) (hl : ajP P l) : ajP P ((k, s) :: l) := ⟨by rw [h]; exact hc, hl⟩
theorem ajP.at {P : Program} : ∀ {l : List (Nat × ax)}, ajP P l → ∀ {i : Nat} {s : ax}, aZ l i = some s → ay P (i % 100000) s
 | [], _, _, _, h => by cases h
 | p :: l, ⟨h1, h2⟩, i, s, h => by
  simp only [aZ] at h
  cases hb : Nat.beq p.1 i with
  | true =>
   rw [hb] at h
   simp only [cond_true, Option.some.injEq] at h
   subst h
   rw [← Nat.eq_of_beq_eq_true hb]
   exact h1
  | false => rw [hb] at h; exact h2.at h
theorem Xg {g : Nat} (hg : g < 100000) : ∀ {vs : List AV}, ag3 g vs % 100000 = g
 | [] => Nat.mod_eq_of_lt hg
 | v :: vs => by
  unfold ag3
  split
  ·omega
  ·exact Xg hg
theorem ah {P : Program} {l : List (Nat × ax)} (h : ajP P l) : ed P (aZ l) := by
 refine aiy fun g vs s hs => ?_
 unfold YT at hs
 cases hb : Nat.blt g 100000 with
 | false => rw [hb] at hs; cases hs
 | true =>
  rw [hb] at hs
  have hg : g < 100000 := Nat.le_of_ble_eq_true hb
  have := h.at hs
  rwa [Xg hg] at this
abbrev Inl := (ρ : Type) → Nat → List AV → List (Nat × Ob) → (AV → List (Nat × Ob) → Option ρ) → Option ρ
def bu : Inl := fun _ _ _ _ _ => none
theorem aO (P : Program) : GL P bu := fun h => by cases h
theorem aU {P : Program} {TT : Nat → Option TD} {Φ : Nat → Option ax} {inl : Inl} {N : Nat} (hTT : BC P TT) (hm : P.follows .mixedOrders = true) (hΦ : ed P Φ) (hinl : GL P inl)
 {g : Nat} {fi : FI} (hf : bZ P g fi) {ps : List PS} {fz : Bool} {rs : List RS} {ts : List Ty} {f : Fn (oJ ps) (Option (tupD ts))} (hl : ps.length ≤ fi.ntmps)
 (h : apd (oJ ps) f (bg (a_ ts) TT Φ inl N fi (bJ ps fz rs))) : ay P g (aQ ps fz rs ts f) := by
 refine acs (N := N) hTT hΦ hinl hm hf hl fun ds hd hp => ?_
 have hp' : (match X8 (oJ ps) f ds with
  | some o => iS o
  | none => false) = true := hp
 have hout : (aQ ps fz rs ts f).out ds = (match X8 (oJ ps) f ds with
  | some o => KC ts (gS o (dfD ts))
  | none => []) := rfl
 rw [hout]
 cases ha : X8 (oJ ps) f ds with
 | none => rw [ha] at hp'; cases hp'
 | some o =>
  rw [ha] at hp'
  cases o with
  | none => cases hp'
  | some r => exact ⟨_, a_ ts, r, h.app ha, fun ds' hds => agX hds⟩
end Go.MC
namespace Go.MC
open Go.RowKit Go.ChangeShapes Go.WideShapes
def Zp (P : Program) (rc : Ty → TypeId → Bool) : Ty → List Field → Nat → Bool
 | _, [], _ => false
 | t, [f], off => Nat.beq f.offset off && rc t f.type
 | .pair a b, f :: g :: fs, off => Nat.beq f.offset off && (rc a f.type && Zp P rc b (g :: fs) (off + a.sz))
 | _, _ :: _ :: _, _ => false
def Zu (P : Program) : Nat → Ty → TypeId → Bool
 | 0, _, _ => false
 | n + 1, t, ty => Nat.beq (P.cellsOf ty) t.sz && match t, P.underlying ty with
  | .bool, some .bool => true
  | .int k, some (.int j) => decide (j = k)
  | .str, some .string => true
  | .slice r, some (.slice e) => Nat.ble 1 (P.bytesOf e) && Zu P n r e
  | .pair a b, some (.struct fs) => Zp P (Zu P n) (.pair a b) fs.toList 0
  | _, _ => false
theorem Zk {P : Program} {n : Nat} {t : Ty} {ty : TypeId} (h : Zu P n t ty = true) : P.cellsOf ty = t.sz := by
 cases n with
 | zero => cases h
 | succ n =>
  simp only [Zu, Bool.and_eq_true] at h
  exact Nat.eq_of_beq_eq_true h.1
theorem Nw {α : Type} {Q : Nat → α → Prop} : ∀ (n : Nat), (∀ i, i < n → ∃ y, Q i y) → ∃ l : List α, l.length = n ∧ ∀ i y, l[i]? = some y → Q i y
 | 0, _ => ⟨[], rfl, fun i y h => by simp at h⟩
 | n + 1, h => by
  obtain ⟨l, h1, h2⟩ := Nw n fun i hi => h i (by omega)
  obtain ⟨y, hy⟩ := h n (by omega)
  refine ⟨l ++ [y], by simp [h1], fun i z hz => ?_⟩
  by_cases hi : i < n
  ·rw [List.getElem?_append_left (by omega)] at hz
   exact h2 i z hz
  ·rw [List.getElem?_append_right (by omega)] at hz
   have : i = n := by
    have := (List.getElem?_eq_some_iff.1 hz).1
    simp at this
    omega
   subst this
   simp [h1] at hz
   subst hz
   exact hy
theorem af2 {P : Program} {rc : Ty → TypeId → Bool} {w : World} {ok : Nat → Prop} {cs : List Value} (hsz : ∀ t u, rc t u = true → P.cellsOf u = t.sz) :
 ∀ {fs : List Field} {t : Ty} {off : Nat}, Zp P rc t fs off = true → cs.length = off + t.sz →
   (∀ f ∈ fs, ∀ t, rc t f.type = true → ∃ y, Rd w ok t y ((cs.drop f.offset).take (P.cellsOf f.type))) → ∃ y, Rd w ok t y (cs.drop off)
 | [], t, off, h, _, _ => by cases t <;> cases h
 | [f], t, off, h, hl, hf => by
  have h : (Nat.beq f.offset off && rc t f.type) = true := by cases t <;> exact h
  simp only [Bool.and_eq_true] at h
  obtain ⟨y, hy⟩ := hf f (by simp) t h.2
  rw [Nat.eq_of_beq_eq_true h.1, hsz _ _ h.2, List.take_of_length_le (by simp; omega)] at hy
  exact ⟨y, hy⟩
 | f :: g :: fs, t, off, h, hl, hf => by
  cases t with
  | pair a b =>
   simp only [Zp, Bool.and_eq_true] at h
   obtain ⟨h1, h2, h3⟩ := h
   obtain ⟨x, hx⟩ := hf f (by simp) a h2
   simp only [Ty.sz] at hl
   obtain ⟨y, hy⟩ := af2 hsz h3 (by omega) fun f' hm => hf f' (by simp only [List.mem_cons] at hm ⊢; exact .inr hm)
   rw [Nat.eq_of_beq_eq_true h1, hsz _ _ h2] at hx
   refine ⟨(x, y), _, _, ?_, hx, hy⟩
   rw [← List.drop_drop, List.take_append_drop]
  | _ => cases h
theorem ZF {P : Program} {H : Type} {enc : TypeId × Value → H} {W : World} {spare : Nat → Bool} {held : Bool} : ∀ (n : Nat) {t : Ty} {ty : TypeId} {fuel : Nat} {cs : List Value} {x : DataW H × List MemPlace}, Zu P n t ty = true →
 DataW.trod enc P W 0 spare held fuel ty cs = some x → (∀ m ∈ x.1.weights P ty, m ≤ reachBytes) → ∃ y, Rd W (fun b => b < W.heap.size) t y cs
 | 0, _, _, _, _, _, h, _, _ => by cases h
 | n + 1, t, ty, fuel, cs, x, h, hx, hw => by
  have hlim : reachBytes ≤ lim := by decide
  have hsz := Zk h
  simp only [Zu, Bool.and_eq_true] at h
  replace h := h.2
  split at h
  ·rename_i hu
   obtain ⟨b, rfl, rfl⟩ := DataW.trod_bool hu hx
   exact ⟨b, rfl⟩
  ·rename_i k j hu
   have := of_decide_eq_true h
   subst this
   obtain ⟨m, rfl, rfl, hwf⟩ := DataW.trod_int hu hx
   refine ⟨m, rfl, ?_⟩
   simpa [Lit.wf, IntKind.has] using hwf
  ·rename_i hu
   obtain ⟨s, rfl, rfl, _⟩ := DataW.trod_string hu hx
   refine ⟨s.data.toList, rfl, ?_⟩
   exact Nat.le_trans (hw _ (by simp [DataW.weights])) hlim
  ·rename_i r e hu
   simp only [Bool.and_eq_true] at h
   obtain ⟨hb, h⟩ := h
   have hesz := Zk h
   rcases DataW.trod_slice hu hx with ⟨rfl, _⟩ | ⟨a, len, cap, elems, rest, m, _, rfl, rfl, hb0, hl, hm, hlen, hel, hsp, hns⟩
   ·exact ⟨[], Rd.nil _ _ _⟩
   ·simp only [DataW.weights, hu] at hw
    have hwl : (elems.length + rest.length) * P.bytesOf e ≤ reachBytes := hw _ (by simp)
    have hll : len ≤ lim := by
     have h1 := Nat.le_of_ble_eq_true hb
     have h2 : elems.length + rest.length ≤ (elems.length + rest.length) * P.bytesOf e := Nat.le_mul_of_pos_right _ h1
     omega
    obtain ⟨l, h1, h2⟩ := Nw (Q := fun i y => ∃ cs, Rd W (fun b => b < W.heap.size) r y cs ∧ ∀ k v, cs[k]? = some v → W.cell? (a.add (i * r.sz + k)) = some v) len (fun i hi => by
     have h3 := hel i hi
     have hi' : i < elems.length := by omega
     rw [List.getElem?_eq_getElem hi', Option.bind_eq_some_iff] at h3
     obtain ⟨cs, h4, h5⟩ := h3
     obtain ⟨y, hy⟩ := ZF n h h5 (fun m hm => hw m (by
      refine List.mem_cons_of_mem _ (List.mem_append.2 (.inl ?_))
      have : ∀ {ds : List (DataW H)} {d : DataW H}, d ∈ ds → ∀ m ∈ d.weights P e, m ∈ DataW.weightsAll P e ds := by
       intro ds
       induction ds with
       | nil => intro d hd; simp at hd
       | cons d0 ds ih =>
        intro d hd m hm
        simp only [DataW.weightsAll, List.mem_append]
        rcases List.mem_cons.1 hd with rfl | hd
        ·exact .inl hm
        ·exact .inr (ih hd m hm)
      exact this (List.mem_map.2 ⟨elems[i], List.getElem_mem hi', rfl⟩) m hm))
     refine ⟨y, cs, hy, fun k v hk => ?_⟩
     unfold World.cells? at h4
     rw [if_pos (Nat.zero_le _)] at h4
     have hkl := (List.getElem?_eq_some_iff.1 hk).1
     have hcl : cs.length = P.cellsOf e := by rw [mapM_some_length h4]; simp
     have h6 := mapM_some_get h4 k k (by rw [List.getElem?_range (by omega)])
     rw [ru, hesz] at h6
     rw [h6]; exact hk)
    refine ⟨l, ?_⟩
    simp only [Rd]
    refine ⟨some a, cap, by rw [h1], by rw [h1]; exact hl, by rw [h1]; exact hll, fun j y hj => ?_⟩
    obtain ⟨cs, h3, h4⟩ := h2 j y hj
    refine ⟨a, cs, rfl, ?_, h3, h4⟩
    have hpos : 0 < cs.length := by rw [h3.length]; exact r.sz_pos
    have h5 := h4 0 cs[0] (List.getElem?_eq_getElem hpos)
    have := World.block_lt_of_cell? W _ h5
    rwa [nO] at this
  ·rename_i a b fs hu
   obtain ⟨xs, m, rfl, rfl, hcl, hxl, hf⟩ := DataW.trod_struct hu hx
   simp only [DataW.weights, hu] at hw
   obtain ⟨y, hy⟩ := af2 (P := P) (w := W) (ok := fun b => b < W.heap.size) (cs := cs) (fun t u => Zk) h (by omega) (fun f hm t' ht' => by
    obtain ⟨i, hi⟩ := List.getElem?_of_mem hm
    have hi' : fs[i]? = some f := by simpa using hi
    have h1 := hf i f hi'
    have hlt : i < xs.length := by rw [hxl]; exact (Array.getElem?_eq_some_iff.1 hi').1
    rw [List.getElem?_eq_getElem hlt] at h1
    exact ZF n ht' h1 fun k hk => hw k (DataW.weights_mem_each (j := i) (t := f.type) (d := xs[i].1) (by simp [hi']) (by simp [hlt]) k hk))
   exact ⟨y, by simpa using hy⟩
  ·cases h
theorem akg {P : Program} {g : Nat} {s : ax} (hc : ay P g s) {W : World} {args : List Value} {ds : List Dv} (hf : xP s.ps args args) (ha : mg W (fun b => b < W.heap.size) (rQ s.ps) args ds [] []) (hp : s.pre ds = true) (ho : s.out ds = [⟨.bool, true⟩]) (hr : s.rs = [.d .bool false]) (hg : GV W fun b => b < W.heap.size) :
 Calls P g args.toArray W fun e W' => e = .returned (.bool true) ∧ Below W.heap.size W W' := by
 refine (hc.2 W _ args args ds [] [] hf ha List.nodup_nil (fun _ h => by simp at h) (fun _ h => h) hg hp).mono ?_
 rintro e w' ⟨vs, rest, own, bs', rfl, hsz, hfr, hos, htp, hou, _, _, _, hres, _⟩
 rw [hr, ho] at hres
 obtain ⟨v, vs', x, d, cs, rfl, hd, h0, hsh, hres⟩ := hres
 obtain ⟨rfl, _⟩ := hres
 simp only [List.cons.injEq, Sigma.mk.injEq, true_and] at hd
 obtain ⟨hx, _⟩ := hd
 have hx : true = x := eq_of_heq hx
 subst hx
 have h0 : cs = [.bool true] := h0
 subst h0
 have : v = .bool true := by simpa [shape] using hsh.symm
 subst this
 exact ⟨rfl, hos, htp, hou, hsz, fun b hb => hfr b hb (by simp)⟩
def isAgg : Ty → Bool
 | .pair _ _ => true
 | _ => false
theorem X_ {P : Program} {W : World} {r : Reach} {base : Nat} {n : Nat} {t : Ty} {ty : TypeId} {v : Value} (h : Zu P n t ty = true) (hv : Value.okWide P W r base ty v) : shape (isAgg t) v.cells.toList v := by
 cases n with
 | zero => cases h
 | succ n =>
  simp only [Zu, Bool.and_eq_true] at h
  replace h := h.2
  split at h
  ·rename_i hu; obtain ⟨b, rfl⟩ := okWide_bool hu hv; simp [shape, isAgg, Value.cells]
  ·rename_i hu; obtain ⟨b, rfl⟩ := okWide_int hu hv; simp [shape, isAgg, Value.cells]
  ·rename_i hu; obtain ⟨b, rfl⟩ := okWide_string hu hv; simp [shape, isAgg, Value.cells]
  ·rename_i hu; obtain ⟨a, l, c, rfl⟩ := okWide_slice hu hv; simp [shape, isAgg, Value.cells]
  ·rename_i hu
   unfold Value.okWide at hv
   rw [hu] at hv
   obtain ⟨cs, rfl, _⟩ := hv
   simp [shape, isAgg, Value.cells]
  ·cases h
theorem axb {P : Program} {H : Type} {enc : TypeId × Value → H} {W : World} {r : Reach} {base n : Nat} {t : Ty} {ty : TypeId} {v : Value} {d : DataW H} {p : List MemPlace} (ht : Zu P n t ty = true) (hv : Value.okWide P W r base ty v)
 (hd : DataW.Trod enc P W 0 (fun _ => true) true ty v d p) {ts : List TypeId} {ds : List (DataW H)} (hsz : (DataW.weightsEach P ts ds).all (· ≤ reachBytes) = true) {j : Nat} (hj : ts[j]? = some ty) (hdj : ds[j]? = some d) :
 ∃ y cs, Rd W (fun b => b < W.heap.size) t y cs ∧ shape (isAgg t) cs v := by
 obtain ⟨fuel, hf⟩ := hd
 obtain ⟨y, hy⟩ := ZF n ht hf fun m hm => by
  have := List.all_eq_true.1 hsz m (DataW.weights_mem_each hj hdj m hm)
  simpa using this
 exact ⟨y, _, hy, X_ ht hv⟩
theorem akf {t : Ty} {a fz : Bool} {rs : List RS} {ts : List Ty} {f : t.den → Option (tupD ts)} {x : t.den} {r : tupD ts} (h : f x = some r) : (aQ [.d t a] fz rs ts f).pre [⟨t, x⟩] = true ∧ (aQ [.d t a] fz rs ts f).out [⟨t, x⟩] = KC ts r := by
 simp [aQ, oJ, X8, gV, h, iS, gS]
end Go.MC
namespace Go.MC
open Go.RowKit Go.Sort Go.Proofs
theorem ajk {F : Fx} {k : K} (hk : aX F k) {id e : Nat} {r : Ty} {xs ys : List r.den} {ws : List Value} {w' : World} (h : k.h id = some (.arr e r xs))
 (hg : k.w.grownBy w' (ownB (k.ν id))) (hown : dZ w' (F.bs id) e r.sz (k.ν id) ys.length ws) (hr : bW k.w (k.ok F) r ys ws) (hl : ys.length = xs.length) (hlim : ys.length ≤ lim) :
 ∃ k', k'.w = w' ∧ k'.h = (k.put [(id, .arr e r ys)]).h ∧ aX F k' ∧ Le F k k' := by
 let k' : K := ⟨w', (k.put [(id, .arr e r ys)]).h, k.μ, k.ν, k.nb⟩
 have hh : ∀ i, k'.h i = if i = id then some (.arr e r ys) else k.h i := by
  intro i
  show (lkH [(id, Ob.arr e r ys)] i).or (k.h i) = _
  rw [gZ]
  split <;> simp
 have hidown : ∀ b, k'.own id b → ownB (k.ν id) = some b := by
  intro b hb
  unfold K.own at hb
  rw [hh, if_pos rfl] at hb
  exact hb
 have main := QH hk (k' := k') (fun x => x = id) hg.size (fun b hb hn => hg.block b hb fun hv => hn id rfl (dV h hv.symm)) hg.os hg.tape hg.output (fun x hx => ⟨by rw [hh, if_neg hx], rfl, rfl, rfl⟩) (fun x hx => ?_) (fun x b hx hb => ?_) (fun x y b hx hy _ _ => hx.trans hy.symm) (fun hle x o hx ho => ?_)
 ·exact ⟨k', rfl, rfl, main.1, main.2⟩
 ·subst hx
  exact .inr ⟨e, r, xs, _, h, rfl, .inl ⟨ys, .no, by rw [hh, if_pos rfl], hl⟩⟩
 ·subst hx
  exact .inl ⟨x, rfl, dV h (hidown b hb)⟩
 ·subst hx
  rw [hh, if_pos rfl] at ho
  cases ho
  exact ⟨ws, hown, hle.rdRows hr, hlim⟩
def srt (xs : List (List UInt8)) : List (List UInt8) := xs.mergeSort fun x y => decide (x ≤ y)
def kz (xs : List (List UInt8)) : List (List UInt8) := Lib.compact xs
theorem xe (xs : List (List UInt8)) : (srt xs).length = xs.length := List.length_mergeSort ..
theorem agO {xs : List (List UInt8)} {x : List UInt8} : x ∈ srt xs ↔ x ∈ xs := List.mem_mergeSort
theorem ajT {xs : List (List UInt8)} {x : List UInt8} (h : x ∈ kz xs) : x ∈ xs := by
 unfold kz Lib.compact Lib.compactUpTo at h
 obtain ⟨j, hj, rfl⟩ := List.mem_map.1 h
 have hj := List.mem_range.1 (List.mem_filter.1 hj).1
 simp [hj]
theorem xm (xs : List (List UInt8)) : (kz xs).length ≤ xs.length := by
 unfold kz Lib.compact Lib.compactUpTo
 rw [List.length_map]
 refine Nat.le_trans (List.length_filter_le _ _) ?_
 simp
theorem lq {w : World} {ok : Nat → Prop} : ∀ {xs : List (List UInt8)} {us : List Value}, bW w ok .str xs us ↔ us = xs.map encStr ∧ ∀ x ∈ xs, x.length ≤ lim
 | [], us => by simp [bW]
 | x :: xs, us => by
  simp only [bW]
  constructor
  ·rintro ⟨v1, v2, rfl, ⟨rfl, h1⟩, h2⟩
   obtain ⟨rfl, h3⟩ := lq.1 h2
   refine ⟨rfl, fun y hy => ?_⟩
   rcases List.mem_cons.1 hy with rfl | hy
   ·exact h1
   ·exact h3 y hy
  ·rintro ⟨rfl, h⟩
   exact ⟨[.string ⟨⟨x⟩⟩], xs.map encStr, rfl, ⟨rfl, h x (by simp)⟩, lq.2 ⟨rfl, fun y hy => h y (by simp [hy])⟩⟩
inductive UQ where
 | sortS
 | compS
 | delR (e sz : Nat)
def lkL : List (Nat × UQ) → Nat → Option UQ
 | [], _ => none
 | (j, k) :: l, i => bif Nat.beq j i then some k else lkL l i
def atW (L : List (Nat × UQ)) : Inl := fun _ g vs H kont => match lkL L g with
 | some .sortS => match vs with
  | [.w (.one (.arr id))] => match lkH H id with
   | some (.arr e .str xs) => kont (.tup []) ((id, .arr e .str (srt xs)) :: H)
   | _ => none
  | [.w (.one .emp)] => kont (.tup []) H
  | _ => none
 | some .compS => match vs with
  | [.w (.one (.arr id))] => match lkH H id with
   | some (.arr e .str xs) => match lkH H (800000 + H.length) with
    | none => bif dK id then none else kont (.w (.one (.arr (800000 + H.length)))) ((800000 + H.length, .arr e .str (kz xs)) :: (id, .gone) :: H)
    | some _ => none
   | _ => none
  | [.w (.one .emp)] => kont (.w (.one .emp)) H
  | _ => none
 | some (.delR e sz) => match vs with
  | [.w (.one (.arr id)), .w (.one (.v (.int .i64) i)), .w (.one (.v (.int .i64) j))] => match lkH H id with
   | some (.arr e' r xs (.yes ns)) => match lkH H (800000 + H.length) with
    | none => bif Nat.beq e' e && (Nat.beq r.sz sz && !dK id) then (bif decide ((0 : Int) ≤ i) then (bif decide ((i : Int) < (xs.length : Int)) then (bif decide ((j : Int) = (i : Int) + 1) then
     kont (.w (.one (.arr (800000 + H.length)))) ((800000 + H.length, .arr e' r (xs.eraseIdx (Int.toNat i)) (.yes ns)) :: (id, .gone) :: H) else none) else none) else none) else none
    | some _ => none
   | _ => none
  | _ => none
 | none => none
def XV (P : Program) (g : Nat) : UQ → Prop
 | .sortS => (∀ (args : Array Value) (w : World), (callFunc g args).run P w = .ok (.enter g args) w) ∧
  (∀ (blk off cap : Nat) (ss : List (List UInt8)) (w : World), Holds encStr w blk off ss.toArray → blk < w.heap.size → ss.length < 4611686018427387904 →
   Calls P g #[.slice (some ⟨blk, off, none⟩) ss.length cap] w fun e w' => e = .returned (.tuple #[]) ∧ ∃ n os, w' = grow (putRow encStr (Sort.ahead w n) blk off (ss.mergeSort fun x y => decide (x ≤ y)).toArray) os) ∧
  (∀ (p : Option Addr) (cap : Nat) (w : World), Calls P g #[.slice p 0 cap] w fun e w' => e = .returned (.tuple #[]) ∧ w' = w)
 | .compS => (∀ (args : Array Value) (w : World), (callFunc g args).run P w = .ok (.enter g args) w) ∧
  (∀ (blk off cap : Nat) (zs : List (List UInt8)) (w : World), Holds encStr w blk off zs.toArray → zs.length ≤ 9223372036854775807 → zs.length ≤ cap →
   Calls P g #[.slice (some ⟨blk, off, none⟩) zs.length cap] w fun e w' => e = .returned (.slice (some ⟨blk, off, none⟩) (Lib.compact zs).length cap) ∧ ∃ q, w' = putRow encStr (Sort.ahead w q) blk off (Lib.compact zs ++ List.replicate (zs.length - (Lib.compact zs).length) []).toArray) ∧
  (∀ (a : Option Addr) (cap : Nat) (w : World), Calls P g #[.slice a 0 cap] w fun e w' => e = .returned (.slice a 0 cap) ∧ w' = w)
 | .delR e sz => (∀ (args : Array Value) (w : World), (callFunc g args).run P w = .ok (.enter g args) w) ∧
  (∀ (blk cap m i : Nat) (cur : Array Value) (w : World), w.heap[blk]? = some (.cells cur e (0, 0)) → cur.size = cap * sz → i ≤ m → m + 1 ≤ cap → cap ≤ maxLen → (∀ t u, t < (m + 1) * sz → cur.toList[t]? = some u → u.oneCell' = true) →
   Calls P g #[.slice (some ⟨blk, 0, none⟩) (m + 1) cap, .int .i64 i, .int .i64 ((i : Int) + 1)] w fun r w' => r = .returned (.slice (some ⟨blk, 0, none⟩) m cap) ∧
    ∃ cur' : Array Value, w'.heap[blk]? = some (.cells cur' e (0, 0)) ∧ cur'.size = cur.size ∧ cur'.toList.take (m * sz) = cur.toList.take (i * sz) ++ (cur.toList.take ((m + 1) * sz)).drop ((i + 1) * sz) ∧ w.grownBy w' (some blk))
theorem cZ.erase {w : World} {ok : Nat → Prop} {base : Nat} {r : Ty} {ns : List Nat} : ∀ {xs : List r.den} {vs : List Value} {os : List Nat} (i : Nat), cZ w ok base r ns xs vs os → i < xs.length →
 ∃ os', cZ w ok base r ns (xs.eraseIdx i) (vs.take (i * r.sz) ++ vs.drop ((i + 1) * r.sz)) os' ∧ os'.Sublist os
 | [], _, _, i, _, hi => by simp at hi
 | x :: xs, vs, os, 0, h, _ => by
  obtain ⟨v1, v2, o1, o2, rfl, h1, h2, rfl⟩ := h
  have hl := h1.length
  refine ⟨o2, ?_, List.sublist_append_right _ _⟩
  rw [Nat.zero_mul, List.take_zero, List.nil_append, Nat.zero_add, Nat.one_mul, ← hl, List.drop_left]
  exact h2
 | x :: xs, vs, os, i + 1, h, hi => by
  obtain ⟨v1, v2, o1, o2, rfl, h1, h2, rfl⟩ := h
  have hl := h1.length
  obtain ⟨os', h3, h4⟩ := cZ.erase (xs := xs) i h2 (by simpa using hi)
  refine ⟨o1 ++ os', ⟨v1, _, o1, os', ?_, h1, h3, rfl⟩, (List.Sublist.refl _).append h4⟩
  have e1 : (i + 1) * r.sz = v1.length + i * r.sz := by rw [hl, Nat.add_mul, Nat.one_mul, Nat.add_comm]
  have e2 : (i + 1 + 1) * r.sz = v1.length + (i + 1) * r.sz := by rw [hl, Nat.add_mul (i + 1) 1, Nat.one_mul, Nat.add_comm]
  rw [e2, List.drop_append, List.drop_of_length_le (by omega), List.nil_append, Nat.add_sub_cancel_left]
  rw [show (v1 ++ v2).take ((i + 1) * r.sz) = v1 ++ v2.take (i * r.sz) by rw [e1, List.take_append, List.take_of_length_le (by omega), Nat.add_sub_cancel_left]]
  rw [List.append_assoc]
def Y8 (P : Program) : List (Nat × UQ) → Prop
 | [] => True
 | p :: l => XV P p.1 p.2 ∧ Y8 P l
theorem YU {P : Program} : ∀ {L : List (Nat × UQ)}, Y8 P L → ∀ g k, lkL L g = some k → XV P g k
 | [], _, g, k, h => by cases h
 | (j, kd) :: l, hL, g, k, h => by
  simp only [lkL] at h
  cases hb : Nat.beq j g with
  | true =>
   rw [hb] at h
   cases h
   rw [← Nat.eq_of_beq_eq_true hb]
   exact hL.1
  | false =>
   rw [hb] at h
   exact YU hL.2 g k h
section mem
variable {P : Program}
theorem agr {F : Fx} {k : K} (hk : aX F k) {id e : Nat} {xs : List (List UInt8)} (h : k.h id = some (.arr e .str xs)) {v : Value} (hv : gW F k (.arr id) v) :
 v = k.ν id ∧ (∀ x ∈ xs, x.length ≤ lim) ∧ xs.length ≤ lim ∧ ((∃ a, v = .slice a 0 0 ∧ xs = []) ∨ ∃ g cap cur, v = .slice (some ⟨g, 0, none⟩) xs.length cap ∧ 0 < cap ∧ F.bs id ≤ g ∧ k.w.heap[g]? = some (.cells cur e (0, 0)) ∧ xs.length ≤ cap ∧ cap ≤ maxLen ∧ cur.size = cap * 1 ∧ cur.toList.take xs.length = xs.map encStr) := by
 obtain ⟨vs, ho, hr, hl⟩ := hk.obj id _ h
 obtain ⟨rfl, hx⟩ := lq.1 hr
 have hv' : v = k.ν id := by
  have := hv.2
  rw [h] at this
  exact this
 subst hv'
 refine ⟨rfl, hx, hl, ?_⟩
 rcases ho.2 with ⟨a, h1, h2⟩ | ⟨g, cap, cur, h1, h0, h2, h3, h4, h5, h6, h7⟩
 ·exact .inl ⟨a, h1, List.eq_nil_of_length_eq_zero h2⟩
 ·have h7 : cur.toList.take (xs.length * 1) = xs.map encStr := h7
  rw [Nat.mul_one] at h7
  exact .inr ⟨g, cap, cur, h1, h0, h2, h3, h4, h5, h6, h7⟩
theorem awT : lim < 4611686018427387904 := by decide
theorem ahc {L : List (Nat × UQ)} (hL : ∀ g k, lkL L g = some k → XV P g k) : GL P (atW L) := by
 intro ρ g vs H kont r h F k args hk hS ha R hR
 unfold atW at h
 cases hg : lkL L g with
 | none => rw [hg] at h; cases h
 | some kd =>
  rw [hg] at h
  have hok := hL g kd hg
  have emp : ∀ {v : Value} {vs : List Value}, vs = v :: [] → gW F k .emp v → vs.toArray = #[.slice none 0 0] := by
   rintro v vs rfl hv
   rw [show v = .slice none 0 0 from hv]
  cases kd with
  | sortS =>
   obtain ⟨he, h1, h0⟩ := hok
   refine ⟨fun w => he _ w, ?_⟩
   dsimp only at h
   split at h
   ·rename_i id
    obtain ⟨v, vt, rfl, hv, has⟩ := ha
    simp only [ed.relAs] at has
    subst has
    split at h
    ·rename_i e xs hid
     have hid' : k.h id = some (.arr e .str xs) := by rw [hS]; exact hid
     obtain ⟨hν, hx, hl, hcase⟩ := agr hk hid' hv
     have fin : ∀ w', k.w.grownBy w' (ownB (k.ν id)) → dZ w' (F.bs id) e 1 (k.ν id) (srt xs).length ((srt xs).map encStr) → R (.returned (.tuple #[])) w' := by
      intro w' hg' hown
      obtain ⟨k', hk1, hk2, hk3, hk4⟩ := ajk hk hid' hg' hown (lq.2 ⟨rfl, fun x hx' => hx x (agO.1 hx')⟩) (xe xs) (by rw [xe]; exact hl)
      rw [← hk1]
      exact hR _ _ k' _ h (by rw [hk2]; funext i; show _ = lkH ([(id, Ob.arr e .str (srt xs))] ++ H) i; rw [gp, ← hS]; rfl) hk3 hk4 ⟨[], rfl, rfl⟩
     rcases hcase with ⟨a0, rfl, rfl⟩ | ⟨gb, cap, cur, rfl, hcp, hb, hc, h2, h3, h4, h5⟩
     ·refine (h0 a0 0 k.w).mono ?_
      rintro e' w' ⟨rfl, rfl⟩
      refine fin _ ⟨rfl, rfl, rfl, Nat.le_refl _, fun _ _ _ => rfl⟩ ?_
      rw [← hν]
      have : srt [] = [] := by simp [srt]
      rw [this]
      exact .mt a0
     ·have hlt : gb < k.w.heap.size := (Array.getElem?_eq_some_iff.1 hc).1
      refine (h1 gb 0 cap xs k.w (holds_of_block hc h5) hlt (Nat.lt_of_le_of_lt hl awT)).mono ?_
      rintro e' w' ⟨rfl, n, os, rfl⟩
      refine fin _ (by rw [← hν, gU hcp]; exact grownBy_sorted _) ?_
      rw [← hν]
      have := ownsRow_sorted (os := os) (n := n) (ts := srt xs) (xe xs) hb hc h2 h3 h4
      rw [xe]
      exact .of this
    ·cases h
   ·obtain ⟨v, vt, rfl, hv, has⟩ := ha
    simp only [ed.relAs] at has
    subst has
    rw [emp rfl hv]
    refine (h0 none 0 k.w).mono ?_
    rintro e' w' ⟨rfl, rfl⟩
    exact hR _ _ k _ h hS hk (Le.refl F k) ⟨[], rfl, rfl⟩
   ·cases h
  | compS =>
   obtain ⟨he, h1, h0⟩ := hok
   refine ⟨fun w => he _ w, ?_⟩
   dsimp only at h
   split at h
   ·rename_i id
    obtain ⟨v, vt, rfl, hv, has⟩ := ha
    simp only [ed.relAs] at has
    subst has
    split at h
    ·rename_i e xs hid
     split at h
     ·rename_i hnew
      cases hp : dK id with
      | true => rw [hp] at h; cases h
      | false =>
      rw [hp] at h
      simp only [cond_false] at h
      have hid' : k.h id = some (.arr e .str xs) := by rw [hS]; exact hid
      have hnew' : k.h (800000 + H.length) = none := by rw [hS]; exact hnew
      obtain ⟨hν, hx, hl, hcase⟩ := agr hk hid' hv
      have fin : ∀ w' v', (∀ b, ownB v' = some b → ownB v = some b) → k.w.grownBy w' (ownB v) → dZ w' 0 e 1 v' (kz xs).length ((kz xs).map encStr) → R (.returned v') w' := by
       intro w' v' hb hg' hown
       obtain ⟨k', hk1, hk2, hk3, hk4, hk5⟩ := pK hk (r := .str) (e := e) (d := .no) (zs := kz xs) (ids := [id]) hnew' (fun i hi => by simp at hi; subst hi; exact ⟨_, _, _, _, hid'⟩) (row := ownB v) (fun b hb => ⟨id, by simp, dV hid' (by rw [← hν]; exact hb)⟩) hown (Nat.le_trans (xm xs) hl) hg' (fun b h => .inl (hb b h)) [] (fun _ h => by simp at h) List.nodup_nil (.inl ⟨rfl, lq.2 ⟨rfl, fun x hx' => hx x (ajT hx')⟩⟩)
       rw [← hk1]
       exact hR _ _ k' _ h (by rw [hk2]; funext i; show _ = lkH ([(800000 + H.length, Ob.arr e .str (kz xs)), (id, .gone)] ++ H) i; rw [gp, ← hS]; rfl) hk3 hk4 hk5
      rcases hcase with ⟨a0, rfl, rfl⟩ | ⟨gb, cap, cur, rfl, hcp, hb, hc, h2, h3, h4, h5⟩
      ·refine (h0 a0 0 k.w).mono ?_
       rintro e' w' ⟨rfl, rfl⟩
       exact fin _ _ (fun _ h => h) ⟨rfl, rfl, rfl, Nat.le_refl _, fun _ _ _ => rfl⟩ (.mt a0)
      ·refine (h1 gb 0 cap xs k.w (holds_of_block hc h5) (Nat.le_trans hl (by decide)) h2).mono ?_
       rintro e' w' ⟨rfl, q, rfl⟩
       have hlen : (Lib.compact xs ++ List.replicate (xs.length - (Lib.compact xs).length) []).length = xs.length := by
        have := xm xs
        unfold kz at this
        rw [List.length_append, List.length_replicate]
        omega
       have ho := ownsRow_sorted (os := #[]) (n := q) (ts := Lib.compact xs ++ List.replicate (xs.length - (Lib.compact xs).length) []) hlen hb hc h2 h3 h4
       have hgr := grownBy_sorted (w := k.w) (g := gb) (n := q) (os := #[]) (Lib.compact xs ++ List.replicate (xs.length - (Lib.compact xs).length) []).toArray
       rw [grow_empty] at ho hgr
       refine fin _ _ (fun b h => by rw [gU hcp] at h ⊢; exact h) (by rw [gU hcp]; exact hgr) (.of ?_)
       have hcl := xm xs
       obtain ⟨_, ho⟩ := ho
       rcases ho with ⟨ho, _⟩ | ⟨g2, cap2, cur2, e1, e2, e3, e4, e5, e6, e7⟩
       ·cases ho
       ·cases e1
        refine ⟨by simp, .inr ⟨gb, cap, cur2, rfl, hb, e3, Nat.le_trans hcl h2, h3, e6, ?_⟩⟩
        have : (cur2.toList.take (xs.length * 1)).take (kz xs).length = (kz xs).map encStr := by
         rw [e7, List.map_append]
         exact List.take_left' (by simp [kz])
        rw [List.take_take, Nat.mul_one, Nat.min_eq_left hcl] at this
        rw [Nat.mul_one]
        exact this
     ·cases h
    ·cases h
   ·obtain ⟨v, vt, rfl, hv, has⟩ := ha
    simp only [ed.relAs] at has
    subst has
    rw [emp rfl hv]
    refine (h0 none 0 k.w).mono ?_
    rintro e' w' ⟨rfl, rfl⟩
    exact hR _ _ k _ h hS hk (Le.refl F k) rfl
   ·cases h
  | delR e sz =>
   obtain ⟨he, h1⟩ := hok
   refine ⟨fun w => he _ w, ?_⟩
   dsimp only at h
   split at h
   ·rename_i id i j
    obtain ⟨v, vt, rfl, hv, has⟩ := ha
    simp only [ed.relAs] at has
    obtain ⟨vi, vt2, rfl, hvi, vj, vt3, rfl, hvj, rfl⟩ := has
    split at h
    ·rename_i e' r xs ns hid
     split at h
     ·rename_i hnew
      cases hb1 : (Nat.beq e' e && (Nat.beq r.sz sz && !dK id)) with
      | false => rw [hb1] at h; cases h
      | true =>
      rw [hb1] at h
      simp only [Bool.and_eq_true, Bool.not_eq_true'] at hb1
      obtain ⟨q1, q2, hp⟩ := hb1
      obtain rfl := Nat.eq_of_beq_eq_true q1
      obtain rfl := Nat.eq_of_beq_eq_true q2
      by_cases hi0 : (0 : Int) ≤ i
      ·by_cases hi1 : (i : Int) < (xs.length : Int)
       ·by_cases hj : (j : Int) = (i : Int) + 1
        ·simp only [cond_true, decide_eq_true hi0, decide_eq_true hi1, decide_eq_true hj] at h
         have hid' : k.h id = some (.arr e' r xs (dpO (some ns))) := by rw [hS]; exact hid
         have hnew' : k.h (800000 + H.length) = none := by rw [hS]; exact hnew
         obtain ⟨us, bl, ho, hrows, hl, hown, hnd, hbl⟩ := aao hk hid'
         have hν : v = k.ν id := by
          have := hv.2
          rw [hid'] at this
          exact this
         obtain ⟨n, rfl⟩ : ∃ n : Nat, i = (n : Int) := ⟨_, (Int.toNat_of_nonneg hi0).symm⟩
         have hi1' : (n : Int) < (xs.length : Int) := hi1
         have hn : n < xs.length := by omega
         have evi : vi = .int .i64 (n : Int) := (List.cons.inj hvi.1).1
         have evj : vj = .int .i64 ((n : Int) + 1) := by
          have : vj = .int .i64 j := (List.cons.inj hvj.1).1
          rw [this, hj]
         subst evi evj
         rw [Int.toNat_natCast] at h
         obtain ⟨hlen, ho⟩ := ho
         rcases ho with ⟨a0, _, e0⟩ | ⟨gb, cap, cur, e1, hcp, hb, hc, h2, h3, h4, h5⟩
         ·omega
         ·obtain ⟨m, hm⟩ : ∃ m, xs.length = m + 1 := ⟨xs.length - 1, by omega⟩
          rw [hν, e1, hm]
          refine (h1 gb cap m n cur k.w hc h4 (by omega) (by omega) h3 (fun t u ht hu => ?_)).mono ?_
          ·refine cZ.one hrows u ?_
           rw [← h5, hm]
           exact List.mem_of_getElem? (by rw [List.getElem?_take, if_pos ht]; exact hu)
          ·rintro r' w' ⟨rfl, cur', g1, g2, g3, g4⟩
           obtain ⟨os', r1, r2⟩ := cZ.erase n hrows hn
           have hob : ownB (k.ν id) = some gb := by rw [e1]; exact gU hcp
           rw [hob] at hnd hown
           have hlz : (xs.eraseIdx n).length = m := by rw [List.length_eraseIdx]; simp [hn]; omega
           have hws : us.take (n * r.sz) ++ us.drop ((n + 1) * r.sz) = cur'.toList.take (m * r.sz) := by
            rw [g3, ← h5, hm, List.take_take, Nat.min_eq_left (Nat.mul_le_mul_right _ (by omega))]
           have hnb : ∀ b ∈ os', some gb ≠ some b ∧ ∃ x ∈ [id], k.own x b := by
            intro b hb
            have hbb := r2.subset hb
            refine ⟨fun e2 => ?_, id, by simp, (hown b).2 (by simp [hbb])⟩
            have e3 : gb = b := by simpa using e2
            exact (List.nodup_append.1 hnd).2.2 gb (by simp) b hbb e3
           obtain ⟨k', hk1, hk2, hk3, hk4, hk5⟩ := pK hk (r := r) (e := e') (d := .yes ns) (zs := xs.eraseIdx n) (v' := .slice (some ⟨gb, 0, none⟩) m cap) (ids := [id]) hnew' (fun x hx => by simp at hx; subst hx; exact ⟨_, _, _, _, hid'⟩) (row := some gb) (fun b hb => ⟨id, by simp, (hown b).2 (by simp at hb; simp [hb])⟩)
            (ws := us.take (n * r.sz) ++ us.drop ((n + 1) * r.sz)) (w' := w') ⟨by rw [r1.length], .inr ⟨gb, cap, cur', by rw [hlz], hcp, Nat.zero_le _, g1, by omega, h3, by rw [g2]; exact h4, by rw [hlz]; exact hws.symm⟩⟩ (by omega) g4 (fun b hb => .inl (by rw [gU hcp] at hb; exact hb)) os' hnb (r2.nodup (List.nodup_append.1 hnd).2.1) (.inr ⟨ns, rfl, cZ.base (Nat.zero_le _) r1⟩)
           rw [← hk1]
           exact hR _ _ k' _ h (by rw [hk2]; funext x; show _ = lkH ([(800000 + H.length, Ob.arr e' r (xs.eraseIdx n) (.yes ns)), (id, .gone)] ++ H) x; rw [gp, ← hS]; rfl) hk3 hk4 hk5
        ·simp only [cond_true, decide_eq_true hi0, decide_eq_true hi1, decide_eq_false hj] at h; cases h
       ·simp only [cond_true, decide_eq_true hi0, decide_eq_false hi1] at h; cases h
      ·simp only [cond_true, decide_eq_false hi0] at h; cases h
     ·cases h
    ·cases h
   ·cases h
end mem
noncomputable def aks (L : List (Nat × UQ)) (Fs : List (Nat × FI)) (TT : Nat → Option TD) (Φ : Nat → Option ax) (N : Nat) : Inl := fun ρ g vs H kont => match lkL L g with
 | some _ => atW L ρ g vs H kont
 | none => asg TT Φ (lkFI Fs) N 1 ρ g vs H kont
 where
 lkFI : List (Nat × FI) → Nat → Option FI
  | [], _ => none
  | (j, f) :: l, i => bif Nat.beq j i then some f else lkFI l i
def alR (P : Program) : List (Nat × FI) → Prop
 | [] => True
 | p :: l => bZ P p.1 p.2 ∧ alR P l
theorem ab1 {P : Program} : ∀ {l : List (Nat × FI)}, alR P l → ∀ g f, aks.lkFI l g = some f → bZ P g f
 | [], _, g, f, h => by cases h
 | (j, fd) :: l, hl, g, f, h => by
  simp only [aks.lkFI] at h
  cases hb : Nat.beq j g with
  | true =>
   rw [hb] at h
   cases h
   rw [← Nat.eq_of_beq_eq_true hb]
   exact hl.1
  | false =>
   rw [hb] at h
   exact ab1 hl.2 g f h
theorem arU {P : Program} {L : List (Nat × UQ)} (hL : Y8 P L) {Fs : List (Nat × FI)} (hF : alR P Fs) {TT : Nat → Option TD} {Φ : Nat → Option ax} {N : Nat} (hTT : BC P TT) (hΦ : ed P Φ) (hm : P.follows .mixedOrders = true) : GL P (aks L Fs TT Φ N) := by
 intro ρ g vs H kont r h
 unfold aks at h
 split at h
 ·exact ahc (YU hL) h
 ·exact adg hTT hΦ hm (ab1 hF) 1 h
end Go.MC
namespace Go.MC
abbrev Txt : Type := List UInt8
abbrev Use : Type := Txt × Int × Int
abbrev aK : Type := Int × Int × List Txt × List Use × List Txt × List Txt
abbrev dm : Type := aK × Bool
abbrev Foe : Type := Txt × Txt
abbrev bi : Type := Txt × Int × Int × Int × List Txt
abbrev af : Type := List Foe × List bi × List Txt × List dm × Int
abbrev Do : Type := aK × Int × Int × Int × Bool
abbrev Rdr : Type := List Int × Int
abbrev ak : Ty := .int .i64
abbrev di : Ty := .int .u8
abbrev aN : Ty := .slice .str
abbrev dP : Ty := .pair .str (.pair ak ak)
abbrev bQ : Ty := .pair ak (.pair ak (.pair aN (.pair (.slice dP) (.pair aN aN))))
abbrev dJ : Ty := .pair bQ .bool
abbrev f_ : Ty := .pair .str .str
abbrev b_ : Ty := .pair .str (.pair ak (.pair ak (.pair ak aN)))
abbrev aV : Ty := .pair (.slice f_) (.pair (.slice b_) (.pair aN (.pair (.slice dJ) ak)))
abbrev tDo : Ty := .pair bQ (.pair ak (.pair ak (.pair ak .bool)))
abbrev bY : Use := ([], 0, 0)
abbrev rY : aK := (0, 0, [], [], [], [])
abbrev bU : dm := (rY, false)
abbrev jd : Foe := ([], [])
abbrev aJ : bi := ([], 0, 0, 0, [])
end Go.MC
set_option maxRecDepth 100000
namespace Go.MC
open Go.Proofs
def aS : List (Nat × TD) := [
 (1, ⟨1, 8, false, .pair .bool .bool, [.u], [], 0, false, [], []⟩),
 (2, ⟨1, 8, false, .int .i64, [.v (.int .i64) (0 : Int)], [], 0, true, [], []⟩),
 (3, ⟨1, 8, false, .int .i64, [.v (.int .i64) (0 : Int)], [], 0, true, [], []⟩),
 (4, ⟨1, 1, false, .bool, [.v .bool false], [], 0, true, [], []⟩),
 (5, ⟨1, 1, false, .int .u8, [.v (.int .u8) (0 : Int)], [], 0, true, [], []⟩),
 (6, ⟨1, 1, false, .int .u8, [.v (.int .u8) (0 : Int)], [], 0, true, [], []⟩),
 (9, ⟨1, 16, false, .str, [.v .str []], [], 0, true, [], []⟩),
 (12, ⟨1, 8, false, .int .u64, [.v (.int .u64) (0 : Int)], [], 0, true, [], []⟩),
 (14, ⟨2, 24, true, .pair (.str) (.int .u64), [.v .str [], .v (.int .u64) (0 : Int)], [(9, 0), (12, 1)], 0, true, [], []⟩),
 (23, ⟨1, 8, false, .pair .bool .bool, [.u], [], 0, false, [], []⟩),
 (24, ⟨1, 24, false, .slice (.int .u8), [.emp], [], 5, true, [], []⟩),
 (27, ⟨1, 24, false, .slice (.str), [.emp], [], 9, true, [], []⟩),
 (29, ⟨1, 24, false, .slice (.pair (.str) (.str)), [.emp], [], 44, true, [], []⟩),
 (30, ⟨1, 24, false, .slice (.pair (.str) (.pair (.int .i64) (.pair (.int .i64) (.pair (.int .i64) (.slice (.str)))))), [.emp], [], 46, true, [], []⟩),
 (31, ⟨1, 24, false, .slice (.pair (.pair (.int .i64) (.pair (.int .i64) (.pair (.slice (.str)) (.pair (.slice (.pair (.str) (.pair (.int .i64) (.int .i64)))) (.pair (.slice (.str)) (.slice (.str))))))) (.bool)), [.emp], [], 91, true, [], []⟩),
 (33, ⟨5, 104, true, .pair (.slice (.pair (.str) (.str))) (.pair (.slice (.pair (.str) (.pair (.int .i64) (.pair (.int .i64) (.pair (.int .i64) (.slice (.str))))))) (.pair (.slice (.str)) (.pair (.slice (.pair (.pair (.int .i64) (.pair (.int .i64) (.pair (.slice (.str)) (.pair (.slice (.pair (.str) (.pair (.int .i64) (.int .i64)))) (.pair (.slice (.str)) (.slice (.str))))))) (.bool))) (.int .i64)))), [.emp, .emp, .emp, .emp, .v (.int .i64) (0 : Int)], [(29, 0), (30, 1), (27, 2), (31, 3), (3, 4)], 0, true, [], []⟩),
 (37, ⟨1, 8, false, .pair .bool .bool, [.u], [], 0, false, [], []⟩),
 (39, ⟨5, 104, true, .pair (.slice (.pair (.str) (.str))) (.pair (.slice (.pair (.str) (.pair (.int .i64) (.pair (.int .i64) (.pair (.int .i64) (.slice (.str))))))) (.pair (.slice (.str)) (.pair (.slice (.pair (.pair (.int .i64) (.pair (.int .i64) (.pair (.slice (.str)) (.pair (.slice (.pair (.str) (.pair (.int .i64) (.int .i64)))) (.pair (.slice (.str)) (.slice (.str))))))) (.bool))) (.int .i64)))), [.emp, .emp, .emp, .emp, .v (.int .i64) (0 : Int)], [(33, 0)], 0, true, [], []⟩),
 (40, ⟨1, 8, false, .pair .bool .bool, [.u], [], 0, false, [], []⟩),
 (44, ⟨2, 32, true, .pair (.str) (.str), [.v .str [], .v .str []], [(9, 0), (9, 1)], 0, true, [.str, .str], []⟩),
 (46, ⟨5, 64, true, .pair (.str) (.pair (.int .i64) (.pair (.int .i64) (.pair (.int .i64) (.slice (.str))))), [.v .str [], .v (.int .i64) (0 : Int), .v (.int .i64) (0 : Int), .v (.int .i64) (0 : Int), .emp], [(9, 0), (3, 1), (3, 2), (3, 3), (27, 4)], 0, true, [], [9]⟩),
 (47, ⟨1, 8, false, .pair .bool .bool, [.u], [], 0, false, [], []⟩),
 (50, ⟨1, 24, false, .slice (.pair (.str) (.pair (.int .i64) (.int .i64))), [.emp], [], 101, true, [], []⟩),
 (52, ⟨6, 112, true, .pair (.int .i64) (.pair (.int .i64) (.pair (.slice (.str)) (.pair (.slice (.pair (.str) (.pair (.int .i64) (.int .i64)))) (.pair (.slice (.str)) (.slice (.str)))))), [.v (.int .i64) (0 : Int), .v (.int .i64) (0 : Int), .emp, .emp, .emp, .emp], [(3, 0), (3, 1), (27, 2), (50, 3), (27, 4), (27, 5)], 0, true, [], [9, 101, 9, 9]⟩),
 (54, ⟨10, 144, true, .pair (.pair (.int .i64) (.pair (.int .i64) (.pair (.slice (.str)) (.pair (.slice (.pair (.str) (.pair (.int .i64) (.int .i64)))) (.pair (.slice (.str)) (.slice (.str))))))) (.pair (.int .i64) (.pair (.int .i64) (.pair (.int .i64) (.bool)))), [.v (.int .i64) (0 : Int), .v (.int .i64) (0 : Int), .emp, .emp, .emp, .emp, .v (.int .i64) (0 : Int), .v (.int .i64) (0 : Int), .v (.int .i64) (0 : Int), .v .bool false], [(52, 0), (3, 6), (3, 7), (3, 8), (4, 9)], 0, true, [], [9, 101, 9, 9]⟩),
 (74, ⟨1, 24, false, .slice (.int .i64), [.emp], [], 3, true, [], []⟩),
 (79, ⟨1, 8, false, .pair .bool .bool, [.u], [], 0, false, [], []⟩),
 (84, ⟨2, 32, true, .pair (.slice (.int .u8)) (.int .i64), [.emp, .v (.int .i64) (0 : Int)], [(24, 0), (3, 1)], 0, true, [], [5]⟩),
 (91, ⟨7, 120, true, .pair (.pair (.int .i64) (.pair (.int .i64) (.pair (.slice (.str)) (.pair (.slice (.pair (.str) (.pair (.int .i64) (.int .i64)))) (.pair (.slice (.str)) (.slice (.str))))))) (.bool), [.v (.int .i64) (0 : Int), .v (.int .i64) (0 : Int), .emp, .emp, .emp, .emp, .v .bool false], [(52, 0), (4, 6)], 0, true, [], [9, 101, 9, 9]⟩),
 (101, ⟨3, 32, true, .pair (.str) (.pair (.int .i64) (.int .i64)), [.v .str [], .v (.int .i64) (0 : Int), .v (.int .i64) (0 : Int)], [(9, 0), (3, 1), (3, 2)], 0, true, [.str, .int .i64, .int .i64], []⟩),
 (109, ⟨1, 16, false, .pair .bool .bool, [.u], [], 0, false, [], []⟩),
 (114, ⟨1, 8, false, .pair .bool .bool, [.u], [], 0, false, [], []⟩),
 (120, ⟨1, 8, false, .pair .bool .bool, [.u], [], 0, false, [], []⟩),
 (123, ⟨1, 24, false, .slice (.slice (.str)), [.emp], [], 27, true, [], []⟩),
 (136, ⟨1, 8, false, .pair .bool .bool, [.u], [], 0, false, [], []⟩),
 (153, ⟨1, 8, false, .pair .bool .bool, [.u], [], 0, false, [], []⟩)]
theorem bz : BC Tryz.prog (az aS) := anY (by kernel_rfl)
theorem mixed : Tryz.prog.follows .mixedOrders = true := Tryz.checked.mixed
end Go.MC
namespace Go.MC
open Go.Proofs Go.RowKit Go.Lib Go.Shelf
theorem nT {P : Program} (w : World) (dT sT ty elem : TypeId) (z : Nat) (b o dLen dCap : Nat) (a : Addr) (sLen sCap n : Nat) (cs : List Value)
 (hu : P.underlying dT = some (.slice elem)) (hs : (P.info? elem).map (·.size) = some z) (hn : n = Nat.min sLen dLen) (hl : cs.length = n * z)
 (hsrc : ∀ j v, cs[j]? = some v → w.cell? (a.add j) = some v) (hc : ∀ j, j < cs.length → (w.cell? ⟨b, o + j, none⟩).isSome = true) (hf : ∀ j, j < cs.length → w.frozen? ⟨b, o + j, none⟩ = false) (h1 : ∀ v ∈ cs, v.oneCell' = true) :
 (Builtin.copy_ #[dT, sT] ty #[.slice (some ⟨b, o, none⟩) dLen dCap, .slice (some a) sLen sCap]).run P w = .ok (goInt n) (w.setCells b o cs) := by
 have hld := run_loadCells_list (P := P) w a cs hsrc
 rw [hl] at hld
 have hst := run_storeCells_cells (P := P) b o cs 0 w (by simpa using hc) (by simpa using hf) h1
 cases hq : P.info? elem with
 | none => simp [hq] at hs
 | some i =>
  have hi : i.size = z := by simpa [hq] using hs
  simp [Builtin.copy_, run_underlying hu, Builtin.lenOf, Builtin.firstCells, sizeOf, typeInfo, hq, hi, ← hn, hld, hst]
theorem X7 : (Tryz.prog.info? 46).map (fun i => (i.zero, i.size, i.bytes)) = some (some (.agg #[.string ⟨#[]⟩, .int .i64 0, .int .i64 0, .int .i64 0, .slice none 0 0]), 5, 64) := by kernel_rfl
def vz : Array Value := #[.string ⟨#[]⟩, .int .i64 0, .int .i64 0, .int .i64 0, .slice none 0 0]
def z46 : Value := .agg #[.string ⟨#[]⟩, .int .i64 0, .int .i64 0, .int .i64 0, .slice none 0 0]
set_option maxHeartbeats 4000000 in
set_option maxRecDepth 1000000 in
theorem YQ (b n c vb m vc : Nat) (vs : List Value) (w : World) (hm : 0 < m) (hroom : n + m ≤ c) (hc63 : c ≤ 9223372036854775807)
 (hvl : vs.length = m * 5) (hsp : ∀ j, j < m * 5 → (w.cell? ⟨b, n * 5 + j, none⟩).isSome = true ∧ w.frozen? ⟨b, n * 5 + j, none⟩ = false)
 (hvs : ∀ j v, vs[j]? = some v → w.cell? ⟨vb, j, none⟩ = some v) (h1v : ∀ v ∈ vs, v.oneCell' = true) :
 Calls Tryz.prog 44 #[.slice (some ⟨b, 0, none⟩) n c, .int .i64 n, .slice (some ⟨vb, 0, none⟩) m vc] w fun e w' =>
  e = .returned (.slice (some ⟨b, 0, none⟩) (n + m) c) ∧ w' = w.setCells b (n * 5) vs := by
 obtain ⟨i0, hi0, hz0, hz1, hz2⟩ := info_parts X7
 have hz1' : ¬ ((m : Int) = 0) := by omega
 have hsrc : Src Tryz.prog i0.size 30 (.slice (some ⟨vb, 0, none⟩) m vc) m vs w := by
  rw [hz1]
  exact Src.ofSlice w Tryz.underlying30 ⟨vb, 0, none⟩ m vc vs hvl (fun j u hj => by rw [Addr.add_lit, Nat.zero_add]; exact hvs j u hj) h1v
 have hsp' : ∀ j, j < vs.length → (w.cell? ⟨b, 0 + n * i0.size + j, none⟩).isSome = true ∧ w.frozen? ⟨b, 0 + n * i0.size + j, none⟩ = false := by
  intro j hj
  rw [hz1, Nat.zero_add]
  exact hsp j (by omega)
 go_enter Tryz.func44, Tryz.ntmps44
 go_wp2_with (at_builtin; refine wpList_append_room_src _ rfl _ _ 30 30 rfl 46 i0 Tryz.underlying30 hi0 b 0 n c rfl _ rfl m vs hsrc hroom (fun j hj => (hsp' j hj).1) (fun j hj => (hsp' j hj).2) ?_)
 go_ret
 exact ⟨rfl, rfl⟩
set_option maxHeartbeats 4000000 in
set_option maxRecDepth 1000000 in
theorem Jv (base : Option Addr) (n c vb m vc : Nat) (cs vs : List Value) (w : World) (hm : 0 < m) (hnc : n ≤ c) (hroom : c < n + m) (hbig : (n + m) * 64 ≤ 140737488355328)
 (hcl : cs.length = n * 5) (hvl : vs.length = m * 5) (hnil : base = none → n = 0)
 (hcs : ∀ a, base = some a → ∀ j v, cs[j]? = some v → w.cell? (a.add j) = some v)
 (hvs : ∀ j v, vs[j]? = some v → w.cell? ⟨vb, j, none⟩ = some v) (h1v : ∀ v ∈ vs, v.oneCell' = true) :
 Calls Tryz.prog 44 #[.slice base n c, .int .i64 n, .slice (some ⟨vb, 0, none⟩) m vc] w fun e w' =>
  e = .returned (.slice (some ⟨w.heap.size, 0, none⟩) (n + m) (grownCap w (n + m) c 46)) ∧
  w' = w.drew.alloc (.cells ((cs ++ vs).toArray ++ Builtin.zeroCells vz (grownCap w (n + m) c 46 - (n + m))) 46) := by
 obtain ⟨i0, hi0, hz0, hz1, hz2⟩ := info_parts X7
 have hz1' : ¬ ((m : Int) = 0) := by omega
 have hsrc : Src Tryz.prog i0.size 30 (.slice (some ⟨vb, 0, none⟩) m vc) m vs w := by
  rw [hz1]
  exact Src.ofSlice w Tryz.underlying30 ⟨vb, 0, none⟩ m vc vs hvl (fun j u hj => by rw [Addr.add_lit, Nat.zero_add]; exact hvs j u hj) h1v
 have hold : (Builtin.firstCells i0.size n (.slice base n c)).run Tryz.prog w.drew = .ok cs.toArray w.drew := by
  rw [hz1]
  cases base with
  | none =>
   have h0 := hnil rfl
   subst h0
   rw [List.length_eq_zero_iff.1 (show cs.length = 0 by simpa using hcl)]
   exact run_firstCells_none w.drew 5 0 0 c
  | some a => exact run_firstCells_some w.drew 5 n a n c cs hcl (fun j v hj => hcs a rfl j v hj)
 have hrun : ∀ ty, (Builtin.append_ #[30, 30] ty #[.slice base n c, .slice (some ⟨vb, 0, none⟩) m vc]).run Tryz.prog w = _ := fun ty =>
  run_append_grow_src w 30 30 ty 46 i0 _ Tryz.underlying30 hi0 hz0 base n c cs hold _ m vs hsrc hroom (by omega) (by rw [hz2]; exact growslice_fits hroom hbig)
 go_enter Tryz.func44, Tryz.ntmps44
 cases base with
 | none =>
  have h0 := hnil rfl
  subst h0
  go_wp2_with (at_builtin; refine Lib.wpList_append_run _ rfl _ _ _ _ rfl _ _ rfl rfl _ _ (hrun _) ?_)
  go_ret
  exact ⟨rfl, rfl⟩
 | some a =>
  obtain ⟨ab, ao, asp⟩ := a
  go_wp2_with (at_builtin; refine Lib.wpList_append_run _ rfl _ _ _ _ rfl _ _ rfl rfl _ _ (hrun _) ?_)
  all_goals (go_ret; exact ⟨rfl, rfl⟩)
set_option maxHeartbeats 4000000 in
set_option maxRecDepth 1000000 in
theorem aji (b n c i vb m vc : Nat) (cs vs : List Value) (w : World) (hi : i < n) (hm : 0 < m) (hroom : n + m ≤ c) (hc63 : c ≤ 9223372036854775807) (hvb : vb ≠ b)
 (hcl : cs.length = n * 5) (hvl : vs.length = m * 5)
 (hcs : ∀ j v, cs[j]? = some v → w.cell? ⟨b, j, none⟩ = some v) (hsp : ∀ j, j < (n + m) * 5 → (w.cell? ⟨b, j, none⟩).isSome = true) (hfz : ∀ j, j < (n + m) * 5 → w.frozen? ⟨b, j, none⟩ = false)
 (hvs : ∀ j v, vs[j]? = some v → w.cell? ⟨vb, j, none⟩ = some v) (h1c : ∀ v ∈ cs, v.oneCell' = true) (h1v : ∀ v ∈ vs, v.oneCell' = true)
 (tA tB : TypeId) (kA kB : Nat) (hsa : w.shape? vb = some (tA, kA)) (hsb : w.shape? b = some (tB, kB)) (hkB : kB ≠ 0) (hfa : w.frozen? ⟨vb, 0, none⟩ = false) (hfe : w.frozen? ⟨vb, kA, none⟩ = false) :
 Calls Tryz.prog 44 #[.slice (some ⟨b, 0, none⟩) n c, .int .i64 i, .slice (some ⟨vb, 0, none⟩) m vc] w fun e w' =>
  e = .returned (.slice (some ⟨b, 0, none⟩) (n + m) c) ∧ w' = (w.drew.setCells b ((i + m) * 5) (cs.drop (i * 5))).setCells b (i * 5) vs := by
 obtain ⟨i0, hi0, hz0, hzs, hzb⟩ := info_parts X7
 have hz1 : ¬ ((m : Int) = 0) := by omega
 have hz2 : ¬ ((i : Int) = (n : Int)) := by omega
 have hsz : (Tryz.prog.info? 46).map (·.size) = some 5 := by rw [hi0]; simp [hzs]
 have hov : ∀ o lb cb, (callFunc 82 #[.slice (some ⟨vb, 0, none⟩) m vc, .slice (some ⟨b, o, none⟩) lb cb]).run Tryz.prog w = .ok (.value (.bool false)) w := fun o lb cb => by
  rw [run_callFunc_extern Tryz.func82 (by kernel_rfl) (by kernel_rfl) (by kernel_rfl) (e := Extern.SlicesOverlaps.overlaps #[30, 30] #[4]) (by kernel_rfl),
   Lib.run_overlaps_apart w 30 4 46 Tryz.underlying30 5 Tryz.sizeOf46 ⟨vb, 0, none⟩ ⟨b, o, none⟩ m vc lb cb hvb tA tB kA kB hsa hsb hkB hfa hfe]
  rfl
 have hdl : (cs.drop (i * 5)).length = (n - i) * 5 := by rw [List.length_drop, hcl]; omega
 have hw1 : IntKind.i64.wrap ((i : Int) + (m : Int)) = (i : Int) + (m : Int) := by rw [IntKind.wrap_i64]; omega
 have hb1 : (0 : Int) ≤ (i : Int) + (m : Int) := by omega
 have hin : i ≤ n := by omega
 have htn : ((i : Int) + (m : Int)).toNat = i + m := by omega
 have hb2 : ¬ (c = i + m) := by omega
 have hb3 : (i : Int) ≤ (n : Int) + (m : Int) := by omega
 have hb4 : ¬ (c = i) := by omega
 have hcp1 : ∀ ty dc sc, (Builtin.copy_ #[30, 30] ty #[.slice (some ⟨b, (i + m) * 5, none⟩) (n + m - (i + m)) dc, .slice (some ⟨b, i * 5, none⟩) (n + m - i) sc]).run Tryz.prog w.drew = .ok (goInt (n - i : Nat)) (w.drew.setCells b ((i + m) * 5) (cs.drop (i * 5))) := fun ty dc sc =>
  nT w.drew 30 30 ty 46 5 b ((i + m) * 5) (n + m - (i + m)) dc ⟨b, i * 5, none⟩ (n + m - i) sc (n - i) (cs.drop (i * 5)) Tryz.underlying30 hsz (by simp only [Nat.min_def]; split <;> omega) hdl
   (fun j v hj => by rw [Addr.add_lit]; exact hcs (i * 5 + j) v (by rwa [List.getElem?_drop] at hj))
   (fun j hj => hsp _ (by omega)) (fun j hj => hfz _ (by omega)) (fun v hv => h1c v (List.mem_of_mem_drop hv))
 obtain ⟨W1, hW1⟩ : ∃ W1, W1 = w.drew.setCells b ((i + m) * 5) (cs.drop (i * 5)) := ⟨_, rfl⟩
 have hsp1 : ∀ k, k < (n + m) * 5 → (W1.cell? ⟨b, k, none⟩).isSome = true := fun k hk => by
  rw [hW1]
  exact isSome_setCells b (cs.drop (i * 5)) ((i + m) * 5) w.drew (fun j hj => hsp _ (by rw [hdl] at hj; omega)) k (hsp k hk)
 have hcp2 : ∀ (W : World), (∀ x, W.cell? x = W1.cell? x) → (∀ x, W.frozen? x = W1.frozen? x) → ∀ ty dc, (Builtin.copy_ #[30, 30] ty #[.slice (some ⟨b, i * 5, none⟩) (n + m - i) dc, .slice (some ⟨vb, 0, none⟩) m vc]).run Tryz.prog W = .ok (goInt m) (W.setCells b (i * 5) vs) := fun W hWc hWf ty dc =>
  nT W 30 30 ty 46 5 b (i * 5) (n + m - i) dc ⟨vb, 0, none⟩ m vc m vs Tryz.underlying30 hsz (by simp only [Nat.min_def]; split <;> omega) hvl
   (fun j v hj => by
    rw [Addr.add_lit, Nat.zero_add, hWc, hW1, World.cell?_setCells_out b _ _ _ _ (fun h _ => absurd h hvb)]
    exact hvs j v hj)
   (fun j hj => by rw [hWc]; exact hsp1 _ (by omega)) (fun j hj => by rw [hWf, hW1, World.frozen?_setCells]; exact hfz _ (by omega)) h1v
 rw [← hW1] at hcp1
 go_enter Tryz.func44, Tryz.ntmps44
 go_wp2_with (simp only [hov])
 go_region_law (refine step_copy_runI rfl _ _ 30 30 rfl _ _ (by simp [Act.eval, Act.put]) (by simp [Act.eval, Act.put]) (hcp1 _ _ _) ?_)
 go_wp2_with (at_builtin; refine wpList_copy_runI _ rfl _ _ 30 30 rfl _ _ rfl rfl (hcp2 _ (fun _ => rfl) (fun _ => rfl) _ _) ?_)
 go_ret
 first | exact ⟨rfl, rfl⟩ | exact ⟨rfl, by rw [hW1]⟩
theorem ayd : z46.cells = vz := by kernel_rfl
set_option maxHeartbeats 4000000 in
set_option maxRecDepth 1000000 in
theorem apV (b n c i vb m vc : Nat) (cs vs : List Value) (w : World) (hi : i < n) (hm : 0 < m) (hnc : n ≤ c) (hroom : c < n + m) (hbig : (n + m) * 64 ≤ 140737488355328)
 (hcl : cs.length = n * 5) (hvl : vs.length = m * 5)
 (hcs : ∀ j v, cs[j]? = some v → w.cell? ⟨b, j, none⟩ = some v)
 (hvs : ∀ j v, vs[j]? = some v → w.cell? ⟨vb, j, none⟩ = some v) (h1c : ∀ v ∈ cs, v.oneCell' = true) (h1v : ∀ v ∈ vs, v.oneCell' = true) :
 Calls Tryz.prog 44 #[.slice (some ⟨b, 0, none⟩) n c, .int .i64 i, .slice (some ⟨vb, 0, none⟩) m vc] w fun e w' =>
  e = .returned (.slice (some ⟨w.heap.size, 0, none⟩) (n + m) (grownCap w (n + m) c 46)) ∧
  w' = (((w.alloc (.cells ((cs.take (i * 5)).toArray ++ Builtin.zeroCells vz (n + m - i) ++ Builtin.zeroCells vz (grownCap w (n + m) c 46 - (n + m))) 46)).drew.setCells w.heap.size (i * 5) vs).drew).setCells w.heap.size ((i + m) * 5) (cs.drop (i * 5)) := by
 obtain ⟨i0, hi0, hz0, hzs, hzb⟩ := info_parts X7
 have hz1 : ¬ ((m : Int) = 0) := by omega
 have hz2 : ¬ ((i : Int) = (n : Int)) := by omega
 have hz3 : (c : Int) < (n : Int) + (m : Int) := by omega
 have hsz : (Tryz.prog.info? 46).map (·.size) = some 5 := by rw [hi0]; simp [hzs]
 have hbw : b < w.heap.size := block_lt_of_cell (hcs 0 _ (List.getElem?_eq_getElem (by omega)))
 have hvw : vb < w.heap.size := block_lt_of_cell (hvs 0 _ (List.getElem?_eq_getElem (by omega)))
 have hkk : (n : Int) + (m : Int) - (i : Int) = ((n + m - i : Nat) : Int) := by omega
 have hik : i + (n + m - i) = n + m := by omega
 have hold : (Builtin.firstCells i0.size i (.slice (some ⟨b, 0, none⟩) i c)).run Tryz.prog w.drew = .ok (cs.take (i * 5)).toArray w.drew := by
  rw [hzs]
  exact run_firstCells_some w.drew 5 i ⟨b, 0, none⟩ i c (cs.take (i * 5)) (by rw [List.length_take]; omega) (fun j v hj => by
   rw [Addr.add_lit, Nat.zero_add]
   rw [List.getElem?_take] at hj
   split at hj
   ·exact hcs j v hj
   ·cases hj)
 have hrz : ∀ ty, (Builtin.append_ #[30, 3] ty #[.slice (some ⟨b, 0, none⟩) i c, .int .i64 ((n : Int) + (m : Int) - (i : Int))]).run Tryz.prog w =
  .ok (.slice (some ⟨w.heap.size, 0, none⟩) (n + m) (grownCap w (n + m) c 46)) (w.drew.alloc (.cells ((cs.take (i * 5)).toArray ++ Builtin.zeroCells vz (n + m - i) ++ Builtin.zeroCells vz (grownCap w (n + m) c 46 - (n + m))) 46)) := fun ty => by
  have h := Lib.run_append_grow_zeros w 30 3 ty 46 i0 z46 .i64 .i64 Tryz.underlying30 Tryz.underlying3 hi0 hz0 (some ⟨b, 0, none⟩) i c (cs.take (i * 5)) hold (n + m - i) (by omega) (by omega) (by omega) (by omega) (by rw [hzb]; omega) (by rw [hzb, hik]; exact growslice_fits hroom hbig)
  rw [hik, ayd] at h
  rw [hkk]
  exact h
 obtain ⟨G, hG⟩ : ∃ G, G = grownCap w (n + m) c 46 := ⟨_, rfl⟩
 obtain ⟨ROW, hROW⟩ : ∃ ROW : Array Value, ROW = (cs.take (i * 5)).toArray ++ Builtin.zeroCells vz (n + m - i) ++ Builtin.zeroCells vz (G - (n + m)) := ⟨_, rfl⟩
 rw [← hG] at hrz ⊢
 rw [← hROW] at hrz ⊢
 have hzl : ∀ k, (Builtin.zeroCells vz k).size = k * 5 := fun k => by simp [Builtin.zeroCells, vz]
 have hRl : (n + m) * 5 ≤ ROW.size := by
  rw [hROW, Array.size_append, Array.size_append, hzl, hzl, List.size_toArray, List.length_take]
  omega
 obtain ⟨W1, hW1⟩ : ∃ W1, W1 = w.drew.alloc (.cells ROW 46) := ⟨_, rfl⟩
 rw [← hW1] at hrz
 have hN : ∀ j, j < (n + m) * 5 → (W1.cell? ⟨w.heap.size, j, none⟩).isSome = true := fun j hj => by
  rw [hW1, World.cell?_alloc_at (w := w.drew) ROW _ w.heap.size j rfl, Array.getElem?_eq_getElem (by omega)]; rfl
 have hNf : ∀ j, W1.frozen? ⟨w.heap.size, j, none⟩ = false := fun j => by rw [hW1]; exact World.frozen?_alloc_at (w := w.drew) ROW _ w.heap.size j rfl
 have hOb : ∀ j v, w.cell? ⟨b, j, none⟩ = some v → W1.cell? ⟨b, j, none⟩ = some v := fun j v h => by rw [hW1, World.cell?_alloc_past (w := w.drew) _ b j hbw]; exact h
 have hOv : ∀ j v, w.cell? ⟨vb, j, none⟩ = some v → W1.cell? ⟨vb, j, none⟩ = some v := fun j v h => by rw [hW1, World.cell?_alloc_past (w := w.drew) _ vb j hvw]; exact h
 have hcpA : ∀ (W : World), (∀ x, W.cell? x = W1.cell? x) → (∀ x, W.frozen? x = W1.frozen? x) → ∀ ty dc, (Builtin.copy_ #[30, 30] ty #[.slice (some ⟨w.heap.size, i * 5, none⟩) (n + m - i) dc, .slice (some ⟨vb, 0, none⟩) m vc]).run Tryz.prog W = .ok (goInt m) (W.setCells w.heap.size (i * 5) vs) := fun W hWc hWf ty dc =>
  nT W 30 30 ty 46 5 w.heap.size (i * 5) (n + m - i) dc ⟨vb, 0, none⟩ m vc m vs Tryz.underlying30 hsz (by simp only [Nat.min_def]; split <;> omega) hvl
   (fun j v hj => by rw [Addr.add_lit, Nat.zero_add, hWc]; exact hOv _ v (hvs j v hj))
   (fun j hj => by rw [hWc]; exact hN _ (by omega)) (fun j hj => by rw [hWf]; exact hNf _) h1v
 have hGn : n + m ≤ G := by rw [hG]; exact grownCap_ge w _ _ _
 have hG63 : G ≤ 9223372036854775807 := by
  have := grownCap_le_maxLen w (n + m) c 46 (by unfold maxLen; omega)
  rw [← hG] at this
  unfold maxLen at this
  omega
 have hGi : ¬ (G = i) := by omega
 have hGim : ¬ (G = i + m) := by omega
 have hci : ¬ (c = i) := by omega
 have hbN : b ≠ w.heap.size := by omega
 have hdl : (cs.drop (i * 5)).length = (n - i) * 5 := by rw [List.length_drop, hcl]; omega
 have hcpB : ∀ (W : World), (∀ x, W.cell? x = (W1.setCells w.heap.size (i * 5) vs).cell? x) → (∀ x, W.frozen? x = (W1.setCells w.heap.size (i * 5) vs).frozen? x) → ∀ ty dc sc, (Builtin.copy_ #[30, 30] ty #[.slice (some ⟨w.heap.size, (i + m) * 5, none⟩) (n + m - (i + m)) dc, .slice (some ⟨b, i * 5, none⟩) (n - i) sc]).run Tryz.prog W = .ok (goInt (n - i : Nat)) (W.setCells w.heap.size ((i + m) * 5) (cs.drop (i * 5))) := fun W hWc hWf ty dc sc =>
  nT W 30 30 ty 46 5 w.heap.size ((i + m) * 5) (n + m - (i + m)) dc ⟨b, i * 5, none⟩ (n - i) sc (n - i) (cs.drop (i * 5)) Tryz.underlying30 hsz (by simp only [Nat.min_def]; split <;> omega) hdl
   (fun j v hj => by
    rw [Addr.add_lit, hWc, World.cell?_setCells_out _ _ _ _ _ (fun h _ => absurd h hbN)]
    exact hOb _ v (hcs (i * 5 + j) v (by rwa [List.getElem?_drop] at hj)))
   (fun j hj => by rw [hWc]; exact isSome_setCells w.heap.size vs (i * 5) W1 (fun t ht => hN _ (by omega)) _ (hN _ (by rw [hdl] at hj; omega)))
   (fun j hj => by rw [hWf, World.frozen?_setCells]; exact hNf _) (fun v hv => h1c v (List.mem_of_mem_drop hv))
 subst hW1
 have hE1 : ∀ x, ((w.alloc (.cells ROW 46)).drew).cell? x = (w.drew.alloc (.cells ROW 46)).cell? x := fun x => rfl
 have hE2 : ∀ x, ((w.alloc (.cells ROW 46)).drew).frozen? x = (w.drew.alloc (.cells ROW 46)).frozen? x := fun x => rfl
 have hF1 : ∀ x, (((w.alloc (.cells ROW 46)).drew.setCells w.heap.size (i * 5) vs).drew).cell? x = ((w.drew.alloc (.cells ROW 46)).setCells w.heap.size (i * 5) vs).cell? x := fun x => rfl
 have hF2 : ∀ x, (((w.alloc (.cells ROW 46)).drew.setCells w.heap.size (i * 5) vs).drew).frozen? x = ((w.drew.alloc (.cells ROW 46)).setCells w.heap.size (i * 5) vs).frozen? x := fun x => rfl
 have hw1 : IntKind.i64.wrap ((i : Int) + (m : Int)) = (i : Int) + (m : Int) := by rw [IntKind.wrap_i64]; omega
 have hb1 : (0 : Int) ≤ (i : Int) + (m : Int) := by omega
 have hin : i ≤ n := by omega
 have htn : ((i : Int) + (m : Int)).toNat = i + m := by omega
 have hb3 : (i : Int) ≤ (n : Int) := by omega
 clear hkk hik hold hROW hG hRl
 go_enter Tryz.func44, Tryz.ntmps44
 go_wp2_with (first
  | (at_builtin; refine Lib.wpList_append_run _ rfl _ _ _ _ rfl _ _ rfl rfl _ _ (hrz _) ?_)
  | (at_builtin; refine wpList_copy_runI _ rfl _ _ 30 30 rfl _ _ rfl rfl (hcpA _ hE1 hE2 _ _) ?_))
 go_region_law (refine step_copy_runI rfl _ _ 30 30 rfl (.slice (some ⟨w.heap.size, (i + m) * 5, none⟩) (n + m - (i + m)) (G - (i + m))) (.slice (some ⟨b, i * 5, none⟩) (n - i) (c - i)) (by simp [Act.eval, Act.put]) (by simp [Act.eval, Act.put]) (hcpB _ hF1 hF2 3 (G - (i + m)) (c - i)) ?_)
 go_wp2
 go_ret
 exact ⟨rfl, rfl⟩
end Go.MC
namespace Go.MC
open Go.Proofs Go.RowKit Go.Lib Go.Shelf
theorem lW (P : Program) {w : World} {g off : Nat} {cur : List Value} {T : TypeId} (hg : w.heap[g]? = some (.cells cur.toArray T (0, 0))) {vs : List Value} (hfit : off + vs.length ≤ cur.length) (h1 : ∀ v ∈ vs, v.oneCell' = true) :
 (w.setCells g off vs).heap[g]? = some (.cells (cur.take off ++ (vs ++ cur.drop (off + vs.length))).toArray T (0, 0)) ∧ w.grownBy (w.setCells g off vs) (some g) := by
 obtain ⟨w', hr, h2, h3, h4, h5, h6, h7⟩ := oq P hg hfit h1
 have hrun := run_storeCells_cells (P := P) g off vs 0 w (fun j hj => by
  rw [Nat.add_zero]
  simp only [World.cell?, hg, Option.isSome_none, Bool.false_eq_true, if_false, List.getElem?_toArray]
  rw [List.getElem?_eq_getElem (by omega)]; rfl) (fun j hj => by simp [World.frozen?, hg]) h1
 rw [Nat.add_zero] at hrun
 have e : w' = w.setCells g off vs := by
  have := hr.symm.trans hrun
  injection this
 rw [← e]
 exact ⟨h2, h5, h6, h7, by omega, fun c hc hne => h4 c fun e => hne (by rw [e])⟩
def pJ (w : World) (v0 : Value) (n m i : Nat) (us vs : List Value) (e : Ending) (w' : World) : Prop :=
 ∃ v, e = .returned v ∧ dZ w' 0 46 5 v (n + m) (us.take (i * 5) ++ (vs ++ us.drop (i * 5))) ∧ (∀ b, ownB v = some b → ownB v0 = some b ∨ (w.heap.size ≤ b ∧ b < w'.heap.size)) ∧
   w.heap.size ≤ w'.heap.size ∧ (∀ c, c < w.heap.size → ownB v0 ≠ some c → w'.heap[c]? = w.heap[c]?) ∧ w'.os = w.os ∧ w'.tape = w.tape ∧ w'.output = w.output
theorem EW (b n c : Nat) (cur vs : List Value) (m : Nat) (w : World) (hg : w.heap[b]? = some (.cells cur.toArray 46 (0, 0))) (hsz : cur.length = c * 5) (hroom : n + m ≤ c) (hm : 0 < m) (hM : c ≤ maxLen) (hvl : vs.length = m * 5) (h1v : ∀ v ∈ vs, v.oneCell' = true) :
 pJ w (.slice (some ⟨b, 0, none⟩) n c) n m n (cur.take (n * 5)) vs (.returned (.slice (some ⟨b, 0, none⟩) (n + m) c)) (w.setCells b (n * 5) vs) := by
 obtain ⟨a1, a2⟩ := lW Tryz.prog (w := w) (g := b) (off := n * 5) (cur := cur) (T := 46) hg (vs := vs) (by omega) h1v
 have hb : ∀ k, ownB (.slice (some ⟨b, 0, none⟩) k c) = some b := fun k => gU (by omega)
 have hl : (cur.take (n * 5)).length = n * 5 := by rw [List.length_take]; omega
 have e : (cur.take (n * 5)).take (n * 5) ++ (vs ++ (cur.take (n * 5)).drop (n * 5)) = cur.take (n * 5) ++ vs := by
  rw [List.drop_of_length_le (by omega), List.append_nil, List.take_of_length_le (by omega)]
 unfold pJ
 rw [e]
 refine ⟨_, rfl, ⟨by rw [List.length_append, hl, hvl]; omega, .inr ⟨b, c, _, rfl, by omega, Nat.zero_le _, a1, hroom, hM, ?_, ?_⟩⟩, fun b' h => .inl (by rw [hb] at h ⊢; exact h), a2.size, fun k hk hne => a2.block k hk (fun h => hne (by rw [hb]; exact h.symm ▸ rfl)), a2.os, a2.tape, a2.output⟩
 ·rw [List.size_toArray, List.length_append, List.length_append, hl, List.length_drop, hvl, hsz]; omega
 ·rw [show (List.toArray _).toList = _ from rfl, ← List.append_assoc]
  exact List.take_left' (by rw [List.length_append, hl, hvl]; omega)
theorem S_ (b n c i : Nat) (cur vs : List Value) (m : Nat) (w : World) (hg : w.heap[b]? = some (.cells cur.toArray 46 (0, 0))) (hsz : cur.length = c * 5) (hi : i < n) (hroom : n + m ≤ c) (hm : 0 < m) (hM : c ≤ maxLen) (hvl : vs.length = m * 5) (h1c : ∀ v ∈ cur.take (n * 5), v.oneCell' = true) (h1v : ∀ v ∈ vs, v.oneCell' = true) :
 pJ w (.slice (some ⟨b, 0, none⟩) n c) n m i (cur.take (n * 5)) vs (.returned (.slice (some ⟨b, 0, none⟩) (n + m) c)) ((w.drew.setCells b ((i + m) * 5) ((cur.take (n * 5)).drop (i * 5))).setCells b (i * 5) vs) := by
 have hl : (cur.take (n * 5)).length = n * 5 := by rw [List.length_take]; omega
 have hdl : ((cur.take (n * 5)).drop (i * 5)).length = (n - i) * 5 := by rw [List.length_drop, hl]; omega
 obtain ⟨news, hnews⟩ : ∃ news, news = (cur.take (n * 5)).drop (i * 5) := ⟨_, rfl⟩
 rw [← hnews] at hdl ⊢
 obtain ⟨a1, a2⟩ := lW Tryz.prog (w := w.drew) (g := b) (off := (i + m) * 5) (cur := cur) (T := 46) hg (vs := news) (by omega) (fun v hv => h1c v (by rw [hnews] at hv; exact List.mem_of_mem_drop hv))
 obtain ⟨b1, b2⟩ := lW Tryz.prog (g := b) (off := i * 5) (T := 46) a1 (vs := vs) (by simp only [List.length_append, List.length_take, List.length_drop]; omega) h1v
 have hb : ∀ k, ownB (.slice (some ⟨b, 0, none⟩) k c) = some b := fun k => gU (by omega)
 have htk : (cur.take (n * 5)).take (i * 5) = cur.take (i * 5) := by rw [List.take_take]; congr 1; omega
 unfold pJ
 rw [htk, ← hnews]
 refine ⟨_, rfl, ⟨by simp only [List.length_append, List.length_take, hvl, hdl]; omega, .inr ⟨b, c, _, rfl, by omega, Nat.zero_le _, b1, hroom, hM, ?_, ?_⟩⟩, fun b' h => .inl (by rw [hb] at h ⊢; exact h), Nat.le_trans a2.size b2.size, fun k hk hne => (b2.block k (Nat.lt_of_lt_of_le hk a2.size) (fun h => hne (by rw [hb]; exact h.symm ▸ rfl))).trans (a2.block k hk (fun h => hne (by rw [hb]; exact h.symm ▸ rfl))), b2.os.trans a2.os, b2.tape.trans a2.tape, b2.output.trans a2.output⟩
 ·simp only [List.size_toArray, List.length_append, List.length_take, List.length_drop, hvl, hdl]; omega
 ·have e0 : (cur.take ((i + m) * 5)).length = (i + m) * 5 := by rw [List.length_take]; omega
  have e1 : (cur.take ((i + m) * 5) ++ (news ++ cur.drop ((i + m) * 5 + news.length))).take (i * 5) = cur.take (i * 5) := by
   rw [List.take_append_of_le_length (by omega), List.take_take]; congr 1; omega
  have e2 : (cur.take ((i + m) * 5) ++ (news ++ cur.drop ((i + m) * 5 + news.length))).drop (i * 5 + vs.length) = news ++ cur.drop ((i + m) * 5 + news.length) := List.drop_left' (by omega)
  rw [show (List.toArray _).toList = _ from rfl, e1, e2]
  have e3 : cur.take (i * 5) ++ (vs ++ (news ++ cur.drop ((i + m) * 5 + news.length))) = (cur.take (i * 5) ++ (vs ++ news)) ++ cur.drop ((i + m) * 5 + news.length) := by simp only [List.append_assoc]
  rw [e3]
  exact List.take_left' (by simp only [List.length_append, List.length_take, hvl, hdl]; omega)
theorem zcl (k : Nat) : (Builtin.zeroCells vz k).size = k * 5 := by simp [Builtin.zeroCells, vz]
theorem rX (base : Option Addr) (n c : Nat) (us vs : List Value) (m : Nat) (w : World) (hcl : us.length = n * 5) (hm : 0 < m) (hroom : c < n + m) (hM : n + m ≤ maxLen) (hvl : vs.length = m * 5) :
 pJ w (.slice base n c) n m n us vs (.returned (.slice (some ⟨w.heap.size, 0, none⟩) (n + m) (grownCap w (n + m) c 46))) (w.drew.alloc (.cells ((us ++ vs).toArray ++ Builtin.zeroCells vz (grownCap w (n + m) c 46 - (n + m))) 46)) := by
 have hG := grownCap_ge w (n + m) c 46
 have hG2 := grownCap_le_maxLen w (n + m) c 46 hM
 obtain ⟨G, hGe⟩ : ∃ G, G = grownCap w (n + m) c 46 := ⟨_, rfl⟩
 rw [← hGe] at hG hG2 ⊢
 have e : us.take (n * 5) ++ (vs ++ us.drop (n * 5)) = us ++ vs := by
  rw [List.drop_of_length_le (by omega), List.append_nil, List.take_of_length_le (by omega)]
 have hal : ∀ (o : Obj), (w.drew.alloc o).heap = w.heap.push o := fun o => rfl
 unfold pJ
 rw [e]
 refine ⟨_, rfl, ⟨by rw [List.length_append, hcl, hvl]; omega, .inr ⟨w.heap.size, G, _, rfl, by omega, Nat.zero_le _, by rw [hal]; simp; rfl, hG, hG2, ?_, ?_⟩⟩, fun b' h => .inr ?_, by rw [hal]; simp, fun k hk hne => by rw [hal, Array.getElem?_push, if_neg (by omega)], rfl, rfl, rfl⟩
 ·rw [Array.size_append, zcl, List.size_toArray, List.length_append, hcl, hvl]; omega
 ·rw [Array.toList_append]
  exact List.take_left' (by rw [show (List.toArray _).toList = _ from rfl, List.length_append, hcl, hvl]; omega)
 ·rw [gU (show 0 < G by omega)] at h
  cases h
  rw [hal]; simp
theorem U4 (base : Option Addr) (n c i : Nat) (us vs : List Value) (m : Nat) (w : World) (hcl : us.length = n * 5) (hi : i < n) (hm : 0 < m) (hroom : c < n + m) (hM : n + m ≤ maxLen) (hvl : vs.length = m * 5) (h1c : ∀ v ∈ us, v.oneCell' = true) (h1v : ∀ v ∈ vs, v.oneCell' = true) :
 pJ w (.slice base n c) n m i us vs (.returned (.slice (some ⟨w.heap.size, 0, none⟩) (n + m) (grownCap w (n + m) c 46)))
  ((((w.alloc (.cells ((us.take (i * 5)).toArray ++ Builtin.zeroCells vz (n + m - i) ++ Builtin.zeroCells vz (grownCap w (n + m) c 46 - (n + m))) 46)).drew.setCells w.heap.size (i * 5) vs).drew).setCells w.heap.size ((i + m) * 5) (us.drop (i * 5))) := by
 have hG := grownCap_ge w (n + m) c 46
 have hG2 := grownCap_le_maxLen w (n + m) c 46 hM
 obtain ⟨G, hGe⟩ : ∃ G, G = grownCap w (n + m) c 46 := ⟨_, rfl⟩
 rw [← hGe] at hG hG2 ⊢
 obtain ⟨Z, hZ⟩ : ∃ Z : List Value, Z = (Builtin.zeroCells vz (n + m - i) ++ Builtin.zeroCells vz (G - (n + m))).toList := ⟨_, rfl⟩
 have hZl : Z.length = (G - i) * 5 := by rw [hZ, Array.length_toList, Array.size_append, zcl, zcl]; omega
 have hrow : (us.take (i * 5)).toArray ++ Builtin.zeroCells vz (n + m - i) ++ Builtin.zeroCells vz (G - (n + m)) = (us.take (i * 5) ++ Z).toArray := by
  rw [hZ, Array.append_assoc]; apply Array.toList_inj.1; simp
 rw [hrow]
 have hul : (us.take (i * 5)).length = i * 5 := by rw [List.length_take]; omega
 have hdl : (us.drop (i * 5)).length = (n - i) * 5 := by rw [List.length_drop, hcl]; omega
 have hal : ∀ (o : Obj), ((w.alloc o).drew).heap = w.heap.push o := fun o => rfl
 have hg : ((w.alloc (.cells (us.take (i * 5) ++ Z).toArray 46)).drew).heap[w.heap.size]? = some (.cells (us.take (i * 5) ++ Z).toArray 46 (0, 0)) := by rw [hal]; simp
 obtain ⟨a1, a2⟩ := lW Tryz.prog (off := i * 5) hg (vs := vs) (by rw [List.length_append, hul, hZl, hvl]; omega) h1v
 have e1 : (us.take (i * 5) ++ Z).take (i * 5) = us.take (i * 5) := List.take_left' hul
 rw [e1] at a1
 obtain ⟨Y, hY⟩ : ∃ Y, Y = (us.take (i * 5) ++ Z).drop (i * 5 + vs.length) := ⟨_, rfl⟩
 have hYl : Y.length = (G - (i + m)) * 5 := by rw [hY, List.length_drop, List.length_append, hul, hZl, hvl]; omega
 rw [← hY] at a1
 obtain ⟨b1, b2⟩ := lW Tryz.prog (w := (((w.alloc (.cells (us.take (i * 5) ++ Z).toArray 46)).drew).setCells w.heap.size (i * 5) vs).drew) (g := w.heap.size) (off := (i + m) * 5) (T := 46) a1 (vs := us.drop (i * 5)) (by rw [List.length_append, List.length_append, hul, hYl, hvl, hdl]; omega) (fun v hv => h1c v (List.mem_of_mem_drop hv))
 have e2 : (us.take (i * 5) ++ (vs ++ Y)).take ((i + m) * 5) = us.take (i * 5) ++ vs := by
  rw [← List.append_assoc]; exact List.take_left' (by rw [List.length_append, hul, hvl]; omega)
 rw [e2] at b1
 have hs1 : w.heap.size < ((w.alloc (.cells (us.take (i * 5) ++ Z).toArray 46)).drew).heap.size := by rw [hal]; simp
 have hs2 := Nat.lt_of_lt_of_le hs1 (Nat.le_trans a2.size b2.size)
 unfold pJ
 refine ⟨_, rfl, ⟨by rw [List.length_append, List.length_append, hul, hdl, hvl]; omega, .inr ⟨w.heap.size, G, _, rfl, by omega, Nat.zero_le _, b1, hG, hG2, ?_, ?_⟩⟩, fun b' h => .inr ?_, Nat.le_of_lt hs2, fun k hk hne => ?_, b2.os.trans a2.os, b2.tape.trans a2.tape, b2.output.trans a2.output⟩
 ·simp only [List.size_toArray, List.length_append, List.length_drop, hul, hvl, hYl, hcl]; omega
 ·rw [show (List.toArray _).toList = _ from rfl]
  have : us.take (i * 5) ++ vs ++ (us.drop (i * 5) ++ (us.take (i * 5) ++ (vs ++ Y)).drop ((i + m) * 5 + (us.drop (i * 5)).length)) = (us.take (i * 5) ++ (vs ++ us.drop (i * 5))) ++ (us.take (i * 5) ++ (vs ++ Y)).drop ((i + m) * 5 + (us.drop (i * 5)).length) := by simp only [List.append_assoc]
  rw [this]
  exact List.take_left' (by rw [List.length_append, List.length_append, hul, hdl, hvl]; omega)
 ·rw [gU (show 0 < G by omega)] at h
  cases h
  exact ⟨Nat.le_refl _, hs2⟩
 ·have hne2 : k ≠ w.heap.size := by omega
  refine (b2.block k (Nat.lt_of_lt_of_le (Nat.lt_trans hk hs1) a2.size) (fun h => hne2 (Option.some.inj h))).trans ((a2.block k (Nat.lt_trans hk hs1) (fun h => hne2 (Option.some.inj h))).trans ?_)
  rw [hal, Array.getElem?_push, if_neg (by omega)]
end Go.MC
namespace Go.MC
open Go.Proofs Go.RowKit Go.Lib Go.Shelf
theorem au_ (w : World) (v0 v1 : Value) (n m i : Nat) (us vs : List Value) (h0 : dZ w 0 46 5 v0 n us) (h1 : dZ w 0 46 5 v1 m vs) (hm : 0 < m) (hi : i ≤ n) (hne : ∀ b, ownB v0 = some b → ownB v1 ≠ some b)
 (hbig : (n + m) * 64 ≤ 140737488355328) (hu1 : ∀ v ∈ us, v.oneCell' = true) (hv1 : ∀ v ∈ vs, v.oneCell' = true) :
 Calls Tryz.prog 44 #[v0, .int .i64 i, v1] w (pJ w v0 n m i us vs) := by
 obtain ⟨hvl, h1⟩ := h1
 obtain ⟨a, _, rfl⟩ | ⟨g1, vc, cur1, rfl, hc1, _, hg1, hmc, hvM, hs1, ht1⟩ := h1
 ·omega
 obtain ⟨hul, h0⟩ := h0
 have hM : n + m ≤ maxLen := by unfold maxLen; omega
 have hvs : ∀ j v, vs[j]? = some v → w.cell? ⟨g1, j, none⟩ = some v := by
  intro j v hj
  rw [← ht1, List.getElem?_take] at hj
  split at hj
  ·simp only [World.cell?, hg1, Option.isSome_none, Bool.false_eq_true, if_false]
   rw [← Array.getElem?_toList]; exact hj
  ·cases hj
 rcases h0 with ⟨a, rfl, rfl⟩ | ⟨g0, c, cur0, rfl, hc0, _, hg0, hnc, hcM, hs0, ht0⟩
 ·obtain rfl : i = 0 := by omega
  obtain rfl : us = [] := List.length_eq_zero_iff.1 (by simpa using hul)
  refine (Jv a 0 0 g1 m vc [] vs w hm (Nat.le_refl _) (by omega) hbig rfl hvl (fun _ => rfl) (fun a _ j v hj => by simp at hj) hvs hv1).mono ?_
  rintro e w' ⟨rfl, rfl⟩
  exact rX a 0 0 [] vs m w rfl hm (by omega) hM hvl
 ·have hcl : cur0.toList.length = c * 5 := by simpa using hs0
  have hgl : w.heap[g0]? = some (.cells cur0.toList.toArray 46 (0, 0)) := by rw [Array.toArray_toList]; exact hg0
  have hcell : ∀ j v, cur0.toList[j]? = some v → w.cell? ⟨g0, j, none⟩ = some v := by
   intro j v hj
   simp only [World.cell?, hg0, Option.isSome_none, Bool.false_eq_true, if_false]
   rw [← Array.getElem?_toList]; exact hj
  have hus : ∀ j v, us[j]? = some v → w.cell? ⟨g0, j, none⟩ = some v := by
   intro j v hj
   rw [← ht0, List.getElem?_take] at hj
   split at hj
   ·exact hcell j v hj
   ·cases hj
  have hsp : ∀ j, j < c * 5 → (w.cell? ⟨g0, j, none⟩).isSome = true := fun j hj => by rw [hcell j _ (List.getElem?_eq_getElem (by omega))]; rfl
  have hfz : ∀ j, w.frozen? ⟨g0, j, none⟩ = false := fun j => by simp [World.frozen?, hg0]
  have hcM' : c ≤ 9223372036854775807 := hcM
  by_cases hroom : n + m ≤ c
  ·by_cases hin : i = n
   ·subst hin
    refine (YQ g0 i c g1 m vc vs w hm hroom hcM' hvl (fun j hj => ⟨hsp _ (by omega), hfz _⟩) hvs hv1).mono ?_
    rintro e w' ⟨rfl, rfl⟩
    rw [← ht0]
    exact EW g0 i c cur0.toList vs m w hgl hcl hroom hm hcM hvl hv1
   ·have hgg : g1 ≠ g0 := fun h => hne g0 (gU (by omega)) (by rw [gU (by omega), h])
    refine (aji g0 n c i g1 m vc us vs w (by omega) hm hroom hcM' hgg hul hvl hus (fun j hj => hsp _ (by omega)) (fun j _ => hfz j) hvs hu1 hv1 46 46 cur1.size cur0.size (by simp [World.shape?, hg1]) (by simp [World.shape?, hg0]) (by omega) (by simp [World.frozen?, hg1]) (by simp [World.frozen?, hg1])).mono ?_
    rintro e w' ⟨rfl, rfl⟩
    subst ht0
    exact S_ g0 n c i cur0.toList vs m w hgl hcl (by omega) hroom hm hcM hvl hu1 hv1
  ·by_cases hin : i = n
   ·subst hin
    refine (Jv (some ⟨g0, 0, none⟩) i c g1 m vc us vs w hm hnc (by omega) hbig hul hvl (fun h => by cases h) (fun a ha j v hj => by cases ha; rw [Addr.add_lit, Nat.zero_add]; exact hus j v hj) hvs hv1).mono ?_
    rintro e w' ⟨rfl, rfl⟩
    exact rX _ i c us vs m w hul hm (by omega) hM hvl
   ·refine (apV g0 n c i g1 m vc us vs w (by omega) hm hnc (by omega) hbig hul hvl hus hvs hu1 hv1).mono ?_
    rintro e w' ⟨rfl, rfl⟩
    exact U4 _ n c i us vs m w hul (by omega) hm (by omega) hM hvl hu1 hv1
end Go.MC
namespace Go.MC
open Go.Proofs Go.RowKit Go.Lib Go.Shelf
theorem bW.cut {w : World} {ok : Nat → Prop} {r : Ty} : ∀ {xs : List r.den} {vs : List Value} (i : Nat), bW w ok r xs vs → bW w ok r (xs.take i) (vs.take (i * r.sz)) ∧ bW w ok r (xs.drop i) (vs.drop (i * r.sz))
 | xs, vs, 0, h => by simpa [bW] using h
 | [], vs, i + 1, h => by
  have : vs = [] := h
  subst this
  simp [bW]
 | x :: xs, vs, i + 1, h => by
  obtain ⟨v1, v2, rfl, h1, h2⟩ := h
  have hl : v1.length = r.sz := h1.length
  obtain ⟨h3, h4⟩ := bW.cut i h2
  have e : (i + 1) * r.sz = v1.length + i * r.sz := by rw [hl, Nat.add_mul]; omega
  have e1 : (v1 ++ v2).take ((i + 1) * r.sz) = v1 ++ v2.take (i * r.sz) := by
   rw [e, List.take_append, List.take_of_length_le (by omega), Nat.add_sub_cancel_left]
  have e2 : (v1 ++ v2).drop ((i + 1) * r.sz) = v2.drop (i * r.sz) := by
   rw [e, List.drop_append, List.drop_of_length_le (by omega), Nat.add_sub_cancel_left, List.nil_append]
  rw [e1, e2]
  exact ⟨⟨v1, _, rfl, h1, h3⟩, h4⟩
end Go.MC
namespace Go.MC.F
def dS (N : Nat) (xs : List bi) (i : Int) (ys : List bi) : Option (List bi) :=
 bif decide (0 ≤ i) && (decide (i ≤ (xs.length : Int)) && (decide (0 < ys.length) && decide ((xs.length + ys.length) * 64 ≤ lim))) then some (xs.take i.toNat ++ (ys ++ xs.drop i.toNat)) else none
def strings_Split (N : Nat) (s sep : List UInt8) : Option (List (List UInt8)) := match sep with
 | [c] => bif decide (s.length < 4294967281) then some (Lib.split s [c]) else none
 | _ => none
def strings_Cut (N : Nat) (s sep : List UInt8) : Option (List UInt8 × List UInt8 × Bool) := match sep with
 | [c] => bif decide (s.length < 4294967281) then some (Lib.cut s [c]) else none
 | _ => none
def strings_Count (N : Nat) (s sep : List UInt8) : Option Int := match sep with
 | [c] => some ((Lib.countByte s c : Nat) : Int)
 | _ => none
def strconv_Atoi (N : Nat) (s : List UInt8) : Option Int := bif decide (s.length ≤ 18) then Lib.atoi s else none
def strconv_Itoa (N : Nat) (n : Int) : Option (List UInt8) := bif decide (-9223372036854775808 ≤ n) && decide (n ≤ 9223372036854775807) then some (Lib.itoa n) else none
def strings_Join (N : Nat) (xs : List (List UInt8)) (sep : List UInt8) : Option (List UInt8) := bif decide ((Lib.join xs sep).length ≤ lim) then some (Lib.join xs sep) else none
def o6 (b : af) (ws : List (List UInt8)) (i : Nat) : Bool := !Op.bytesLess (b.2.1.getD i (Ty.dflt b_)).1 (ws.getD 1 [])
def dY (N : Nat) (n : Int) (b : af) (ws : List (List UInt8)) : Option Int :=
 bif decide (0 ≤ n) && (decide (n ≤ (b.2.1.length : Int)) && (decide (n < 4611686018427387904) && (decide (1 < ws.length) && (List.range n.toNat).all fun i => (List.range n.toNat).all fun j => !(decide (i ≤ j) && o6 b ws i) || o6 b ws j)))
 then some (((List.range n.toNat).countP fun i => !o6 b ws i : Nat) : Int) else none
end Go.MC.F
namespace Go.MC
open Go.Proofs Go.RowKit Go.Lib Go.Shelf
theorem jm.one' {w : World} {ok : Nat → Prop} {base : Nat} {r : Ty} {o : Option (List Nat)} {xs : List r.den} {us : List Value} {bl : List Nat} (h : jm w ok base r o xs us bl) : ∀ v ∈ us, v.oneCell' = true :=
 (h.rd (ok' := fun _ => True) (fun _ _ => trivial) fun _ _ => trivial).one
def iM (N : Nat) : ax := aQ [.mv 46 b_ (some [9]), .d ak false, .mv 46 b_ none] true [.own (.slice b_) false [(46, none)]] [.slice b_] (F.dS N)
theorem o8 (N : Nat) : ay Tryz.prog 44 (iM N) := by
 refine ⟨enters_of Tryz.func44 (by kernel_rfl) rfl, fun w ok args fargs ds hv bs hf ha hbn hbr hok _ hp => ?_⟩
 obtain ⟨v0, vs0, us0, rfl, rfl, v1, vs1, us1, rfl, rfl, v2, vs2, us2, rfl, rfl, rfl, rfl⟩ := hf
 obtain ⟨_, _, xs, ds1, us, bl, hv1, bs1, he, rfl, rfl, rfl, h0, h0r, h0l, ha⟩ := ha
 cases he
 obtain ⟨_, _, i, ds2, cs, he, rfl, hi, hsh, ha⟩ := ha
 cases he
 obtain ⟨_, _, ys, ds3, vs, bl2, hv2, bs2, he, rfl, rfl, rfl, h2, h2r, h2l, ha⟩ := ha
 cases he
 obtain ⟨_, rfl, rfl, rfl⟩ := ha
 have hv1 : v1 = .int .i64 i := by
  have h1 : cs = [v1] := hsh
  subst h1
  obtain ⟨h3, _⟩ := hi
  simpa using h3
 subst hv1
 have hin : 0 ≤ i ∧ i ≤ (xs.length : Int) ∧ 0 < ys.length ∧ (xs.length + ys.length) * 64 ≤ lim ∧ F.dS N xs i ys = some (xs.take i.toNat ++ (ys ++ xs.drop i.toNat)) := by
  have h1 : iS (F.dS N xs i ys) = true := hp
  unfold F.dS at h1 ⊢
  cases hb : (decide (0 ≤ i) && (decide (i ≤ (xs.length : Int)) && (decide (0 < ys.length) && decide ((xs.length + ys.length) * 64 ≤ lim)))) with
  | false => rw [hb] at h1; cases h1
  | true =>
   simp only [Bool.and_eq_true, decide_eq_true_eq] at hb
   exact ⟨hb.1, hb.2.1, hb.2.2.1, hb.2.2.2, rfl⟩
 obtain ⟨hi0, hi1, hm, hbig, hF⟩ := hin
 obtain ⟨k, rfl⟩ := Int.eq_ofNat_of_zero_le hi0
 have hk : k ≤ xs.length := Int.ofNat_le.1 hi1
 obtain ⟨h2r, rfl⟩ : bW w ok b_ ys vs ∧ bl2 = [] := h2r
 have hlim : lim ≤ 140737488355328 := by decide
 have hnd := List.nodup_append.1 hbn
 have hnd0 := List.nodup_append.1 hnd.1
 have h0b : ∀ b, ownB v0 = some b → b ∈ (ownB v0).toList := fun b h => by rw [h]; simp
 have h2b : ∀ b, ownB v2 = some b → b ∈ ((ownB v2).toList ++ []) ++ ([] : List Nat) := fun b h => by rw [h]; simp
 have hne : ∀ b, ownB v0 = some b → ownB v2 ≠ some b := fun b h g => hnd.2.2 b (List.mem_append.2 (.inl (h0b b h))) b (h2b b g) rfl
 refine (au_ w v0 v2 xs.length ys.length k us vs h0 h2 hm hk hne (by omega) h0r.one' h2r.one).mono ?_
 rintro e w' ⟨v, rfl, hown, hvb, hsz, hfr, hos, htp, hou⟩
 have hokw : ∀ b, ok b → w'.heap[b]? = w.heap[b]? := fun b hb => hfr b (hok b hb) fun h => (hbr b (List.mem_append.2 (.inl (List.mem_append.2 (.inl (h0b b h)))))).2 hb
 have hblw : ∀ b ∈ bl, w'.heap[b]? = w.heap[b]? := fun b hb => hfr b (hbr b (List.mem_append.2 (.inl (List.mem_append.2 (.inr hb))))).1 fun h => hnd0.2.2 b (h0b b h) b hb rfl
 have hvn : ∀ b, b < w.heap.size → ownB v0 ≠ some b → b ∉ (ownB v).toList ++ ([] : List Nat) := fun b hb h hm => by
  rw [List.append_nil] at hm
  have hm : ownB v = some b := by simpa using hm
  rcases hvb b hm with h1 | h1
  ·exact h h1
  ·omega
 refine ⟨[v], [], (ownB v).toList, [], rfl, hsz, fun b hb hn => hfr b hb fun h => hn (List.mem_append.2 (.inl (List.mem_append.2 (.inl (h0b b h))))), hos, htp, hou, ?_, ?_, fun b h => by simp at h, ?_, ?_⟩
 ·rw [List.append_nil]; cases ownB v <;> simp
 ·intro b hb
  have hb : ownB v = some b := by simpa using hb
  exact (hvb b hb).imp (fun h => List.mem_append.2 (.inl (List.mem_append.2 (.inl (h0b b h))))) id
 ·have hr0 : bW w' (fun b => ok b ∨ ((w.heap.size ≤ b ∨ b ∈ ((ownB v0).toList ++ bl) ++ (((ownB v2).toList ++ []) ++ [])) ∧ b < w'.heap.size ∧ b ∉ (ownB v).toList ++ [])) b_ xs us := by
   refine (h0r.move (w' := w') (ok' := ok) (fun _ h => h) (fun b hb _ => hokw b hb) hblw).rd (fun b hb => .inl hb) fun b hb => ?_
   have h1 := (hbr b (List.mem_append.2 (.inl (List.mem_append.2 (.inr hb))))).1
   exact .inr ⟨.inr (List.mem_append.2 (.inl (List.mem_append.2 (.inr hb)))), by omega, hvn b h1 fun h => hnd0.2.2 b (h0b b h) b hb rfl⟩
  have hr2 : bW w' (fun b => ok b ∨ ((w.heap.size ≤ b ∨ b ∈ ((ownB v0).toList ++ bl) ++ (((ownB v2).toList ++ []) ++ [])) ∧ b < w'.heap.size ∧ b ∉ (ownB v).toList ++ [])) b_ ys vs :=
   h2r.mono (fun b hb => .inl hb) fun b hb _ => hokw b hb
  obtain ⟨c1, c2⟩ := hr0.cut k
  have hrow := c1.append (hr2.append c2)
  have hout : (iM N).out [⟨.slice b_, xs⟩, ⟨ak, (k : Int)⟩, ⟨.slice b_, ys⟩] = [⟨.slice b_, xs.take k ++ (ys ++ xs.drop k)⟩] := by
   show KC [.slice b_] (gS (F.dS N xs (k : Int) ys) (dfD [.slice b_])) = _
   rw [hF]; rfl
  have hlen : (xs.take k ++ (ys ++ xs.drop k)).length = xs.length + ys.length := by
   simp only [List.length_append, List.length_take, List.length_drop]; omega
  refine ⟨v, [], xs.take k ++ (ys ++ xs.drop k), [], [v], (ownB v).toList, [], rfl, hout, ⟨(46, none), rfl, .inl ⟨by decide, v, us.take (k * 5) ++ (vs ++ us.drop (k * 5)), [], rfl, ?_, ⟨hrow, rfl⟩, by rw [hlen]; omega, by simp⟩⟩, rfl, ⟨rfl, rfl, rfl⟩, by simp⟩
  rw [hlen]
  exact hown
 ·exact ⟨_, rfl, _, rfl, rfl, rfl, rfl⟩
end Go.MC
namespace Go.Proofs
open Go.Shelf
def Tryz.lays156_ren : Go.Shelf.Ren := ⟨fun | 156 => 92 | 165 => 136 | 166 => 137 | 169 => 138 | 240 => 172 | 241 => 173 | 276 => 191 | 277 => 192 | n => n, fun | 31 => 27 | 9 => 9 | 3 => 3 | 4 => 4 | 0 => 0 | 20 => 20 | 72 => 144 | 76 => 110 | 70 => 142 | 37 => 24 | 75 => 109 | 127 => 169 | 164 => 191 | 5 => 5 | 80 => 146 | n => n, fun | n => n⟩
theorem Tryz.lays156 : Go.Proofs.Lays.n156 Tryz.prog Tryz.lays156_ren := {
 mixed := by kernel_rfl
 f156 := Tryz.func92.trans (congrArg some (by kernel_rfl))
 f165 := Tryz.func136.trans (congrArg some (by kernel_rfl))
 f166 := Tryz.func137.trans (congrArg some (by kernel_rfl))
 f169 := Tryz.func138.trans (congrArg some (by kernel_rfl))
 f240 := Tryz.func172.trans (congrArg some (by kernel_rfl))
 f241 := Tryz.func173.trans (congrArg some (by kernel_rfl))
 f276 := Tryz.func191.trans (congrArg some (by kernel_rfl))
 f277 := Tryz.func192.trans (congrArg some (by kernel_rfl))
 t0 := Tryz.underlying0
 a0 := Tryz.isAgg0
 z0 := Tryz.sizeOf0
 v0 := Tryz.zeroValue0
 t3 := Tryz.underlying3
 a3 := Tryz.isAgg3
 z3 := Tryz.sizeOf3
 v3 := Tryz.zeroValue3
 t4 := Tryz.underlying4
 a4 := Tryz.isAgg4
 z4 := Tryz.sizeOf4
 v4 := Tryz.zeroValue4
 t9 := Tryz.underlying9
 a9 := Tryz.isAgg9
 z9 := Tryz.sizeOf9
 v9 := Tryz.zeroValue9
 t20 := Tryz.underlying20
 a20 := Tryz.isAgg20
 z20 := Tryz.sizeOf20
 v20 := Tryz.zeroValue20
 t31 := Tryz.underlying27
 a31 := Tryz.isAgg27
 z31 := Tryz.sizeOf27
 v31 := Tryz.zeroValue27
 t37 := Tryz.underlying24
 a37 := Tryz.isAgg24
 z37 := Tryz.sizeOf24
 v37 := Tryz.zeroValue24
 t70 := Tryz.underlying142
 a70 := Tryz.isAgg142
 z70 := Tryz.sizeOf142
 v70 := Tryz.zeroValue142
 t72 := Tryz.underlying144
 a72 := Tryz.isAgg144
 z72 := Tryz.sizeOf144
 v72 := Tryz.zeroValue144
 t75 := Tryz.underlying109
 a75 := Tryz.isAgg109
 z75 := Tryz.sizeOf109
 v75 := Tryz.zeroValue109
 t76 := Tryz.underlying110
 a76 := Tryz.isAgg110
 z76 := Tryz.sizeOf110
 v76 := Tryz.zeroValue110
 t127 := Tryz.underlying169
 a127 := Tryz.isAgg169
 z127 := Tryz.sizeOf169
 v127 := Tryz.zeroValue169
 t164 := Tryz.underlying191
 a164 := Tryz.isAgg191
 z164 := Tryz.sizeOf191
 v164 := Tryz.zeroValue191 }
theorem Tryz.Builder_Extra_156 : Builder.Extra Tryz.prog Tryz.lays156_ren := {
 sizeBuilder := by kernel_rfl
 liesBuilder := by kernel_rfl
 t5 := Tryz.underlying5
 a5 := Tryz.isAgg5
 z5 := Tryz.sizeOf5
 v5 := Tryz.zeroValue5
 infoByte := by kernel_rfl
 cellsByte := by kernel_rfl
 sizeByte := by kernel_rfl
 neB5 := by decide }
open Go.RowKit in
theorem Tryz.strings_Join_none (a : Option Addr) (c : Nat) (sep : ByteArray) (w : World) :
 Calls Tryz.prog 92 #[.slice a 0 c, .string sep] w fun e w' => e = .returned (.string ⟨#[]⟩) ∧ w' = w := Any.strings_Join_none Tryz.lays156 Tryz.Builder_Extra_156 a c sep w
open Go.RowKit in
theorem Tryz.strings_Join (bk o c : Nat) (xs : List ByteArray) (sep : ByteArray) (w : World) (hcells : ∀ (j : Nat) x, xs[j]? = some x → w.cell? ⟨bk, o + j, none⟩ = some (.string x)) (hbk : bk < w.heap.size) (hN : xs.length ≤ 140737488355328) (hcap : xs.length ≤ c) (hlen : (Lib.join (xs.map (·.data.toList)) sep.data.toList).length ≤ 140737488355328) :
 Calls Tryz.prog 92 #[.slice (some ⟨bk, o, none⟩) xs.length c, .string sep] w fun e w' => e = .returned (.string ⟨(Lib.join (xs.map (·.data.toList)) sep.data.toList).toArray⟩) ∧ Below w.heap.size w w' := Any.strings_Join Tryz.lays156 Tryz.Builder_Extra_156 bk o c xs sep w hcells hbk hN hcap hlen
def Tryz.lays172_ren : Go.Shelf.Ren := ⟨fun | 172 => 81 | 244 => 120 | 245 => 121 | 247 => 157 | 279 => 158 | 280 => 159 | 281 => 160 | 282 => 161 | 287 => 180 | 316 => 181 | 171 => 52 | 205 => 182 | 321 => 193 | 322 => 194 | 243 => 91 | 246 => 135 | 283 => 168 | 284 => 169 | 285 => 170 | 286 => 171 | 129 => 187 | 317 => 186 | 318 => 188 | 319 => 189 | 320 => 190 | 337 => 205 | 338 => 206 | n => n, fun | 9 => 9 | 3 => 3 | 75 => 109 | 76 => 110 | 4 => 4 | 5 => 5 | 167 => 154 | 37 => 24 | 0 => 0 | 85 => 155 | 2 => 2 | 168 => 157 | 53 => 164 | 175 => 180 | 46 => 107 | 210 => 183 | 127 => 169 | 145 => 197 | 143 => 195 | 21 => 21 | 171 => 163 | 173 => 167 | 212 => 189 | 51 => 176 | 20 => 20 | 213 => 190 | 232 => 214 | 233 => 215 | 80 => 146 | n => n, fun | 15 => 3 | 16 => 4 | 17 => 5 | 18 => 6 | 19 => 7 | n => n⟩
theorem Tryz.lays172 : Go.Proofs.Lays.n172 Tryz.prog Tryz.lays172_ren := {
 mixed := by kernel_rfl
 f129 := Tryz.func187.trans (congrArg some (by kernel_rfl))
 f171 := Tryz.func52.trans (congrArg some (by kernel_rfl))
 f172 := Tryz.func81.trans (congrArg some (by kernel_rfl))
 f205 := Tryz.func182.trans (congrArg some (by kernel_rfl))
 f243 := Tryz.func91.trans (congrArg some (by kernel_rfl))
 f244 := Tryz.func120.trans (congrArg some (by kernel_rfl))
 f245 := Tryz.func121.trans (congrArg some (by kernel_rfl))
 f246 := Tryz.func135.trans (congrArg some (by kernel_rfl))
 f247 := Tryz.func157.trans (congrArg some (by kernel_rfl))
 f279 := Tryz.func158.trans (congrArg some (by kernel_rfl))
 f280 := Tryz.func159.trans (congrArg some (by kernel_rfl))
 f281 := Tryz.func160.trans (congrArg some (by kernel_rfl))
 f282 := Tryz.func161.trans (congrArg some (by kernel_rfl))
 f283 := Tryz.func168.trans (congrArg some (by kernel_rfl))
 f284 := Tryz.func169.trans (congrArg some (by kernel_rfl))
 f285 := Tryz.func170.trans (congrArg some (by kernel_rfl))
 f286 := Tryz.func171.trans (congrArg some (by kernel_rfl))
 f287 := Tryz.func180.trans (congrArg some (by kernel_rfl))
 f316 := Tryz.func181.trans (congrArg some (by kernel_rfl))
 f317 := Tryz.func186.trans (congrArg some (by kernel_rfl))
 f318 := Tryz.func188.trans (congrArg some (by kernel_rfl))
 f319 := Tryz.func189.trans (congrArg some (by kernel_rfl))
 f320 := Tryz.func190.trans (congrArg some (by kernel_rfl))
 f321 := Tryz.func193.trans (congrArg some (by kernel_rfl))
 f322 := Tryz.func194.trans (congrArg some (by kernel_rfl))
 f337 := Tryz.func205.trans (congrArg some (by kernel_rfl))
 f338 := Tryz.func206.trans (congrArg some (by kernel_rfl))
 t0 := Tryz.underlying0
 a0 := Tryz.isAgg0
 z0 := Tryz.sizeOf0
 v0 := Tryz.zeroValue0
 t2 := Tryz.underlying2
 a2 := Tryz.isAgg2
 z2 := Tryz.sizeOf2
 v2 := Tryz.zeroValue2
 t3 := Tryz.underlying3
 a3 := Tryz.isAgg3
 z3 := Tryz.sizeOf3
 v3 := Tryz.zeroValue3
 t4 := Tryz.underlying4
 a4 := Tryz.isAgg4
 z4 := Tryz.sizeOf4
 v4 := Tryz.zeroValue4
 t5 := Tryz.underlying5
 a5 := Tryz.isAgg5
 z5 := Tryz.sizeOf5
 v5 := Tryz.zeroValue5
 t9 := Tryz.underlying9
 a9 := Tryz.isAgg9
 z9 := Tryz.sizeOf9
 v9 := Tryz.zeroValue9
 t20 := Tryz.underlying20
 a20 := Tryz.isAgg20
 z20 := Tryz.sizeOf20
 v20 := Tryz.zeroValue20
 t21 := Tryz.underlying21
 a21 := Tryz.isAgg21
 z21 := Tryz.sizeOf21
 v21 := Tryz.zeroValue21
 t37 := Tryz.underlying24
 a37 := Tryz.isAgg24
 z37 := Tryz.sizeOf24
 v37 := Tryz.zeroValue24
 t46 := Tryz.underlying107
 a46 := Tryz.isAgg107
 z46 := Tryz.sizeOf107
 v46 := Tryz.zeroValue107
 t51 := Tryz.underlying176
 a51 := Tryz.isAgg176
 z51 := Tryz.sizeOf176
 v51 := Tryz.zeroValue176
 t53 := Tryz.underlying164
 a53 := Tryz.isAgg164
 z53 := Tryz.sizeOf164
 v53 := Tryz.zeroValue164
 t75 := Tryz.underlying109
 a75 := Tryz.isAgg109
 z75 := Tryz.sizeOf109
 v75 := Tryz.zeroValue109
 t76 := Tryz.underlying110
 a76 := Tryz.isAgg110
 z76 := Tryz.sizeOf110
 v76 := Tryz.zeroValue110
 t85 := Tryz.underlying155
 a85 := Tryz.isAgg155
 z85 := Tryz.sizeOf155
 v85 := Tryz.zeroValue155
 t127 := Tryz.underlying169
 a127 := Tryz.isAgg169
 z127 := Tryz.sizeOf169
 v127 := Tryz.zeroValue169
 t143 := Tryz.underlying195
 a143 := Tryz.isAgg195
 z143 := Tryz.sizeOf195
 v143 := Tryz.zeroValue195
 t145 := Tryz.underlying197
 a145 := Tryz.isAgg197
 z145 := Tryz.sizeOf197
 v145 := Tryz.zeroValue197
 t167 := Tryz.underlying154
 a167 := Tryz.isAgg154
 z167 := Tryz.sizeOf154
 v167 := Tryz.zeroValue154
 t168 := Tryz.underlying157
 a168 := Tryz.isAgg157
 z168 := Tryz.sizeOf157
 v168 := Tryz.zeroValue157
 t171 := Tryz.underlying163
 a171 := Tryz.isAgg163
 z171 := Tryz.sizeOf163
 v171 := Tryz.zeroValue163
 t173 := Tryz.underlying167
 a173 := Tryz.isAgg167
 z173 := Tryz.sizeOf167
 v173 := Tryz.zeroValue167
 t175 := Tryz.underlying180
 a175 := Tryz.isAgg180
 z175 := Tryz.sizeOf180
 v175 := Tryz.zeroValue180
 t210 := Tryz.underlying183
 a210 := Tryz.isAgg183
 z210 := Tryz.sizeOf183
 v210 := Tryz.zeroValue183
 t212 := Tryz.underlying189
 a212 := Tryz.isAgg189
 z212 := Tryz.sizeOf189
 v212 := Tryz.zeroValue189
 t213 := Tryz.underlying190
 a213 := Tryz.isAgg190
 z213 := Tryz.sizeOf190
 t232 := Tryz.underlying214
 a232 := Tryz.isAgg214
 z232 := Tryz.sizeOf214
 v232 := Tryz.zeroValue214
 t233 := Tryz.underlying215
 a233 := Tryz.isAgg215
 z233 := Tryz.sizeOf215
 v233 := Tryz.zeroValue215
 g15 := by kernel_rfl
 g16 := by kernel_rfl
 g17 := by kernel_rfl
 g18 := by kernel_rfl
 g19 := by kernel_rfl }
open Go.RowKit in
theorem Tryz.strconv_Atoi (s : ByteArray) (n : Int) (hl : s.size ≤ 18) (h : Lib.atoi s.data.toList = some n) (w : World) :
 Calls Tryz.prog 81 #[.string s] w fun e w' => e = .returned (.tuple #[.int .i64 n, .nilIface]) ∧ ∃ t, w' = Lib.bytesWorld w 5 t := Any.strconv_Atoi Tryz.lays172 s n hl h w
def Tryz.laysM171_ren : Go.Shelf.Ren := ⟨fun | 171 => 52 | 243 => 91 | 246 => 135 | 283 => 168 | 284 => 169 | 285 => 170 | 286 => 171 | 129 => 187 | 317 => 186 | 318 => 188 | 319 => 189 | 320 => 190 | 337 => 205 | 338 => 206 | n => n, fun | 3 => 3 | 9 => 9 | 2 => 2 | 4 => 4 | 171 => 163 | 0 => 0 | 53 => 164 | 37 => 24 | 5 => 5 | 173 => 167 | 212 => 189 | 51 => 176 | 20 => 20 | 213 => 190 | 46 => 107 | 232 => 214 | 233 => 215 | n => n, fun | 17 => 5 | 18 => 6 | 19 => 7 | n => n⟩
theorem Tryz.laysM171 : Go.Proofs.LaysM.n171 Tryz.prog Tryz.laysM171_ren := {
 mixed := by kernel_rfl
 f129 := Tryz.func187.trans (congrArg some (by kernel_rfl))
 f171 := Tryz.func52.trans (congrArg some (by kernel_rfl))
 f243 := Tryz.func91.trans (congrArg some (by kernel_rfl))
 f246 := Tryz.func135.trans (congrArg some (by kernel_rfl))
 f283 := Tryz.func168.trans (congrArg some (by kernel_rfl))
 f284 := Tryz.func169.trans (congrArg some (by kernel_rfl))
 f285 := Tryz.func170.trans (congrArg some (by kernel_rfl))
 f286 := Tryz.func171.trans (congrArg some (by kernel_rfl))
 f317 := Tryz.func186.trans (congrArg some (by kernel_rfl))
 f318 := Tryz.func188.trans (congrArg some (by kernel_rfl))
 f319 := Tryz.func189.trans (congrArg some (by kernel_rfl))
 f320 := Tryz.func190.trans (congrArg some (by kernel_rfl))
 f337 := Tryz.func205.trans (congrArg some (by kernel_rfl))
 f338 := Tryz.func206.trans (congrArg some (by kernel_rfl))
 t0 := Tryz.underlying0
 a0 := Tryz.isAgg0
 z0 := Tryz.sizeOf0
 v0 := Tryz.zeroValue0
 t2 := Tryz.underlying2
 a2 := Tryz.isAgg2
 z2 := Tryz.sizeOf2
 v2 := Tryz.zeroValue2
 t3 := Tryz.underlying3
 a3 := Tryz.isAgg3
 z3 := Tryz.sizeOf3
 v3 := Tryz.zeroValue3
 t4 := Tryz.underlying4
 a4 := Tryz.isAgg4
 z4 := Tryz.sizeOf4
 v4 := Tryz.zeroValue4
 t5 := Tryz.underlying5
 a5 := Tryz.isAgg5
 z5 := Tryz.sizeOf5
 v5 := Tryz.zeroValue5
 t9 := Tryz.underlying9
 a9 := Tryz.isAgg9
 z9 := Tryz.sizeOf9
 v9 := Tryz.zeroValue9
 t20 := Tryz.underlying20
 a20 := Tryz.isAgg20
 z20 := Tryz.sizeOf20
 v20 := Tryz.zeroValue20
 t37 := Tryz.underlying24
 a37 := Tryz.isAgg24
 z37 := Tryz.sizeOf24
 v37 := Tryz.zeroValue24
 t46 := Tryz.underlying107
 a46 := Tryz.isAgg107
 z46 := Tryz.sizeOf107
 v46 := Tryz.zeroValue107
 t51 := Tryz.underlying176
 a51 := Tryz.isAgg176
 z51 := Tryz.sizeOf176
 v51 := Tryz.zeroValue176
 t53 := Tryz.underlying164
 a53 := Tryz.isAgg164
 z53 := Tryz.sizeOf164
 v53 := Tryz.zeroValue164
 t171 := Tryz.underlying163
 a171 := Tryz.isAgg163
 z171 := Tryz.sizeOf163
 v171 := Tryz.zeroValue163
 t173 := Tryz.underlying167
 a173 := Tryz.isAgg167
 z173 := Tryz.sizeOf167
 v173 := Tryz.zeroValue167
 t212 := Tryz.underlying189
 a212 := Tryz.isAgg189
 z212 := Tryz.sizeOf189
 v212 := Tryz.zeroValue189
 t213 := Tryz.underlying190
 a213 := Tryz.isAgg190
 z213 := Tryz.sizeOf190
 t232 := Tryz.underlying214
 a232 := Tryz.isAgg214
 z232 := Tryz.sizeOf214
 v232 := Tryz.zeroValue214
 t233 := Tryz.underlying215
 a233 := Tryz.isAgg215
 z233 := Tryz.sizeOf215
 v233 := Tryz.zeroValue215
 g17 := by kernel_rfl
 g18 := by kernel_rfl
 g19 := by kernel_rfl
 i0 := by kernel_rfl
 i2 := by kernel_rfl
 i3 := by kernel_rfl
 i4 := by kernel_rfl
 i5 := by kernel_rfl
 i9 := by kernel_rfl
 i20 := by kernel_rfl
 i37 := by kernel_rfl
 i46 := by kernel_rfl
 i51 := by kernel_rfl
 i53 := by kernel_rfl
 i171 := by kernel_rfl
 i173 := by kernel_rfl
 i212 := by kernel_rfl
 i232 := by kernel_rfl
 i233 := by kernel_rfl
 m17 := by kernel_rfl
 m18 := by kernel_rfl
 m19 := by kernel_rfl }
open Go.RowKit Go.Sort Go.Lib in
theorem Tryz.strconv_Itoa (n : Int) (h0 : -9223372036854775808 ≤ n) (h1 : n ≤ 9223372036854775807) (w : World) (htab : Lib.TabIs Tryz.prog w "internal/strconv.uint64pow10" .u64 Lib.pow10Tab) :
 Calls Tryz.prog 52 #[.int .i64 n] w fun e w' => e = .returned (.string ⟨(Lib.itoa n).toArray⟩) ∧ ∃ k os, w' = grow (w.drewN k) os := Any.strconv_Itoa Tryz.laysM171 n h0 h1 w htab
def Tryz.lays145_ren : Go.Shelf.Ren := ⟨fun | 145 => 87 | 220 => 134 | 219 => 111 | 217 => 149 | 225 => 150 | 224 => 151 | 267 => 152 | 266 => 176 | 314 => 177 | n => n, fun | 9 => 9 | 4 => 4 | 59 => 116 | 3 => 3 | 5 => 5 | 46 => 107 | 146 => 177 | 51 => 176 | n => n, fun | 1 => 0 | n => n⟩
theorem Tryz.lays145 : Go.Proofs.Lays.n145 Tryz.prog Tryz.lays145_ren := {
 mixed := by kernel_rfl
 f145 := Tryz.func87.trans (congrArg some (by kernel_rfl))
 f217 := Tryz.func149.trans (congrArg some (by kernel_rfl))
 f219 := Tryz.func111.trans (congrArg some (by kernel_rfl))
 f220 := Tryz.func134.trans (congrArg some (by kernel_rfl))
 f224 := Tryz.func151.trans (congrArg some (by kernel_rfl))
 f225 := Tryz.func150.trans (congrArg some (by kernel_rfl))
 f266 := Tryz.func176.trans (congrArg some (by kernel_rfl))
 f267 := Tryz.func152.trans (congrArg some (by kernel_rfl))
 f314 := Tryz.func177.trans (congrArg some (by kernel_rfl))
 t3 := Tryz.underlying3
 a3 := Tryz.isAgg3
 z3 := Tryz.sizeOf3
 v3 := Tryz.zeroValue3
 t4 := Tryz.underlying4
 a4 := Tryz.isAgg4
 z4 := Tryz.sizeOf4
 v4 := Tryz.zeroValue4
 t5 := Tryz.underlying5
 a5 := Tryz.isAgg5
 z5 := Tryz.sizeOf5
 v5 := Tryz.zeroValue5
 t9 := Tryz.underlying9
 a9 := Tryz.isAgg9
 z9 := Tryz.sizeOf9
 v9 := Tryz.zeroValue9
 t46 := Tryz.underlying107
 a46 := Tryz.isAgg107
 z46 := Tryz.sizeOf107
 v46 := Tryz.zeroValue107
 t51 := Tryz.underlying176
 a51 := Tryz.isAgg176
 z51 := Tryz.sizeOf176
 v51 := Tryz.zeroValue176
 t59 := Tryz.underlying116
 a59 := Tryz.isAgg116
 z59 := Tryz.sizeOf116
 v59 := Tryz.zeroValue116
 t146 := Tryz.underlying177
 a146 := Tryz.isAgg177
 z146 := Tryz.sizeOf177
 v146 := Tryz.zeroValue177
 g1 := by kernel_rfl }
open Go.RowKit Go.Lib in
theorem Tryz.strings_Cut (s sep : ByteArray) (m : Int) (w : World) (hs : s.size < 4294967281) (hm : w.cell? ⟨0, 0, none⟩ = some (.int .i64 m)) :
 Calls Tryz.prog 87 #[.string s, .string sep] w fun e w' => e = .returned (.tuple #[.string ⟨(Lib.cut s.data.toList sep.data.toList).1.toArray⟩, .string ⟨(Lib.cut s.data.toList sep.data.toList).2.1.toArray⟩, .bool (Lib.cut s.data.toList sep.data.toList).2.2]) ∧ ∃ n, w' = w.drewN n := Any.strings_Cut Tryz.lays145 s sep m w hs hm
def Tryz.lays138_ren : Go.Shelf.Ren := ⟨fun | 138 => 74 | 195 => 108 | 218 => 110 | 143 => 75 | 219 => 111 | 217 => 149 | 225 => 150 | 224 => 151 | 267 => 152 | 266 => 176 | 314 => 177 | n => n, fun | 9 => 9 | 3 => 3 | 4 => 4 | 5 => 5 | 0 => 0 | 46 => 107 | 146 => 177 | 51 => 176 | n => n, fun | 1 => 0 | n => n⟩
theorem Tryz.lays138 : Go.Proofs.Lays.n138 Tryz.prog Tryz.lays138_ren := {
 mixed := by kernel_rfl
 f138 := Tryz.func74.trans (congrArg some (by kernel_rfl))
 f143 := Tryz.func75.trans (congrArg some (by kernel_rfl))
 f195 := Tryz.func108.trans (congrArg some (by kernel_rfl))
 f217 := Tryz.func149.trans (congrArg some (by kernel_rfl))
 f218 := Tryz.func110.trans (congrArg some (by kernel_rfl))
 f219 := Tryz.func111.trans (congrArg some (by kernel_rfl))
 f224 := Tryz.func151.trans (congrArg some (by kernel_rfl))
 f225 := Tryz.func150.trans (congrArg some (by kernel_rfl))
 f266 := Tryz.func176.trans (congrArg some (by kernel_rfl))
 f267 := Tryz.func152.trans (congrArg some (by kernel_rfl))
 f314 := Tryz.func177.trans (congrArg some (by kernel_rfl))
 t0 := Tryz.underlying0
 a0 := Tryz.isAgg0
 z0 := Tryz.sizeOf0
 v0 := Tryz.zeroValue0
 t3 := Tryz.underlying3
 a3 := Tryz.isAgg3
 z3 := Tryz.sizeOf3
 v3 := Tryz.zeroValue3
 t4 := Tryz.underlying4
 a4 := Tryz.isAgg4
 z4 := Tryz.sizeOf4
 v4 := Tryz.zeroValue4
 t5 := Tryz.underlying5
 a5 := Tryz.isAgg5
 z5 := Tryz.sizeOf5
 v5 := Tryz.zeroValue5
 t9 := Tryz.underlying9
 a9 := Tryz.isAgg9
 z9 := Tryz.sizeOf9
 v9 := Tryz.zeroValue9
 t46 := Tryz.underlying107
 a46 := Tryz.isAgg107
 z46 := Tryz.sizeOf107
 v46 := Tryz.zeroValue107
 t51 := Tryz.underlying176
 a51 := Tryz.isAgg176
 z51 := Tryz.sizeOf176
 v51 := Tryz.zeroValue176
 t146 := Tryz.underlying177
 a146 := Tryz.isAgg177
 z146 := Tryz.sizeOf177
 v146 := Tryz.zeroValue177
 g1 := by kernel_rfl }
open Go.RowKit Go.Lib in
theorem Tryz.strings_Count_one (s : ByteArray) (c : UInt8) (w : World) :
 Calls Tryz.prog 74 #[.string s, .string ⟨#[c]⟩] w fun e w' => e = .returned (.int .i64 (Lib.countByte s.data.toList c)) ∧ w' = w := Any.strings_Count_one Tryz.lays138 s c w
open Go.RowKit Go.Lib in
theorem Tryz.strings_Count (s sub : ByteArray) (m : Int) (w : World) (hs : s.size < 4294967281) (hm : w.cell? ⟨0, 0, none⟩ = some (.int .i64 m)) (h2 : 2 ≤ sub.size) :
 Calls Tryz.prog 74 #[.string s, .string sub] w fun e w' => e = .returned (.int .i64 (Lib.countB s sub)) ∧ w' = w := Any.strings_Count Tryz.lays138 s sub m w hs hm h2
def Tryz.lays192_ren : Go.Shelf.Ren := ⟨fun | 192 => 132 | 190 => 167 | 125 => 185 | 258 => 184 | 128 => 204 | 129 => 187 | 302 => 195 | 303 => 196 | 304 => 197 | 305 => 198 | 306 => 199 | 307 => 200 | 308 => 201 | 309 => 202 | 310 => 203 | 333 => 207 | 329 => 208 | 330 => 209 | 334 => 210 | 335 => 211 | 336 => 212 | 344 => 213 | n => n, fun | 31 => 27 | 0 => 0 | 9 => 9 | 3 => 3 | 46 => 107 | 51 => 176 | 53 => 164 | 4 => 4 | 183 => 200 | 182 => 199 | 131 => 205 | 5 => 5 | 218 => 208 | 222 => 212 | 228 => 216 | 229 => 217 | n => n, fun | n => n⟩
theorem Tryz.lays192 : Go.Proofs.Lays.n192 Tryz.prog Tryz.lays192_ren := {
 mixed := by kernel_rfl
 f125 := Tryz.func185.trans (congrArg some (by kernel_rfl))
 f128 := Tryz.func204.trans (congrArg some (by kernel_rfl))
 f129 := Tryz.func187.trans (congrArg some (by kernel_rfl))
 f190 := Tryz.func167.trans (congrArg some (by kernel_rfl))
 f192 := Tryz.func132.trans (congrArg some (by kernel_rfl))
 f258 := Tryz.func184.trans (congrArg some (by kernel_rfl))
 f302 := Tryz.func195.trans (congrArg some (by kernel_rfl))
 f303 := Tryz.func196.trans (congrArg some (by kernel_rfl))
 f304 := Tryz.func197.trans (congrArg some (by kernel_rfl))
 f305 := Tryz.func198.trans (congrArg some (by kernel_rfl))
 f306 := Tryz.func199.trans (congrArg some (by kernel_rfl))
 f307 := Tryz.func200.trans (congrArg some (by kernel_rfl))
 f308 := Tryz.func201.trans (congrArg some (by kernel_rfl))
 f309 := Tryz.func202.trans (congrArg some (by kernel_rfl))
 f310 := Tryz.func203.trans (congrArg some (by kernel_rfl))
 f329 := Tryz.func208.trans (congrArg some (by kernel_rfl))
 f330 := Tryz.func209.trans (congrArg some (by kernel_rfl))
 f333 := Tryz.func207.trans (congrArg some (by kernel_rfl))
 f334 := Tryz.func210.trans (congrArg some (by kernel_rfl))
 f335 := Tryz.func211.trans (congrArg some (by kernel_rfl))
 f336 := Tryz.func212.trans (congrArg some (by kernel_rfl))
 f344 := Tryz.func213.trans (congrArg some (by kernel_rfl))
 t0 := Tryz.underlying0
 a0 := Tryz.isAgg0
 z0 := Tryz.sizeOf0
 v0 := Tryz.zeroValue0
 t3 := Tryz.underlying3
 a3 := Tryz.isAgg3
 z3 := Tryz.sizeOf3
 v3 := Tryz.zeroValue3
 t4 := Tryz.underlying4
 a4 := Tryz.isAgg4
 z4 := Tryz.sizeOf4
 v4 := Tryz.zeroValue4
 t5 := Tryz.underlying5
 a5 := Tryz.isAgg5
 z5 := Tryz.sizeOf5
 v5 := Tryz.zeroValue5
 t9 := Tryz.underlying9
 a9 := Tryz.isAgg9
 z9 := Tryz.sizeOf9
 v9 := Tryz.zeroValue9
 t31 := Tryz.underlying27
 a31 := Tryz.isAgg27
 z31 := Tryz.sizeOf27
 v31 := Tryz.zeroValue27
 t46 := Tryz.underlying107
 a46 := Tryz.isAgg107
 z46 := Tryz.sizeOf107
 v46 := Tryz.zeroValue107
 t51 := Tryz.underlying176
 a51 := Tryz.isAgg176
 z51 := Tryz.sizeOf176
 v51 := Tryz.zeroValue176
 t53 := Tryz.underlying164
 a53 := Tryz.isAgg164
 z53 := Tryz.sizeOf164
 v53 := Tryz.zeroValue164
 t131 := Tryz.underlying205
 a131 := Tryz.isAgg205
 z131 := Tryz.sizeOf205
 v131 := Tryz.zeroValue205
 t182 := Tryz.underlying199
 a182 := Tryz.isAgg199
 z182 := Tryz.sizeOf199
 v182 := Tryz.zeroValue199
 t183 := Tryz.underlying200
 a183 := Tryz.isAgg200
 z183 := Tryz.sizeOf200
 v183 := Tryz.zeroValue200
 t218 := Tryz.underlying208
 a218 := Tryz.isAgg208
 z218 := Tryz.sizeOf208
 v218 := Tryz.zeroValue208
 t222 := Tryz.underlying212
 a222 := Tryz.isAgg212
 z222 := Tryz.sizeOf212
 v222 := Tryz.zeroValue212
 t228 := Tryz.underlying216
 a228 := Tryz.isAgg216
 z228 := Tryz.sizeOf216
 v228 := Tryz.zeroValue216
 t229 := Tryz.underlying217
 a229 := Tryz.isAgg217
 z229 := Tryz.sizeOf217
 v229 := Tryz.zeroValue217 }
open Go.Sort Go.RowKit in
theorem Tryz.sort_Strings (blk off cap : Nat) (ss : List (List UInt8)) (w : World) (hH : Holds encStr w blk off ss.toArray) (hblk : blk < w.heap.size) (hsz : ss.length < 4611686018427387904) :
 Calls Tryz.prog 132 #[.slice (some ⟨blk, off, none⟩) ss.length cap] w fun e w' =>
  e = .returned (.tuple #[]) ∧ ∃ n os, w' = grow (putRow encStr (Sort.ahead w n) blk off (ss.mergeSort fun x y => decide (x ≤ y)).toArray) os := Any.sort_Strings Tryz.lays192 blk off cap ss w hH hblk hsz
def Tryz.lays146_ren : Go.Shelf.Ren := ⟨fun | 146 => 10 | 221 => 38 | 268 => 73 | 138 => 74 | 143 => 75 | 195 => 108 | 197 => 109 | 218 => 110 | 219 => 111 | 260 => 148 | 217 => 149 | 225 => 150 | 224 => 151 | 267 => 152 | 266 => 176 | 314 => 177 | n => n, fun | 9 => 9 | 31 => 27 | 3 => 3 | 4 => 4 | 0 => 0 | 105 => 131 | 21 => 21 | 5 => 5 | 46 => 107 | 119 => 172 | 139 => 175 | 138 => 174 | 146 => 177 | 51 => 176 | n => n, fun | 1 => 0 | 3 => 1 | 4 => 2 | n => n⟩
theorem Tryz.lays146 : Go.Proofs.Lays.n146 Tryz.prog Tryz.lays146_ren := {
 mixed := by kernel_rfl
 f138 := Tryz.func74.trans (congrArg some (by kernel_rfl))
 f143 := Tryz.func75.trans (congrArg some (by kernel_rfl))
 f146 := Tryz.func10.trans (congrArg some (by kernel_rfl))
 f195 := Tryz.func108.trans (congrArg some (by kernel_rfl))
 f197 := Tryz.func109.trans (congrArg some (by kernel_rfl))
 f217 := Tryz.func149.trans (congrArg some (by kernel_rfl))
 f218 := Tryz.func110.trans (congrArg some (by kernel_rfl))
 f219 := Tryz.func111.trans (congrArg some (by kernel_rfl))
 f221 := Tryz.func38.trans (congrArg some (by kernel_rfl))
 f224 := Tryz.func151.trans (congrArg some (by kernel_rfl))
 f225 := Tryz.func150.trans (congrArg some (by kernel_rfl))
 f260 := Tryz.func148.trans (congrArg some (by kernel_rfl))
 f266 := Tryz.func176.trans (congrArg some (by kernel_rfl))
 f267 := Tryz.func152.trans (congrArg some (by kernel_rfl))
 f268 := Tryz.func73.trans (congrArg some (by kernel_rfl))
 f314 := Tryz.func177.trans (congrArg some (by kernel_rfl))
 t0 := Tryz.underlying0
 a0 := Tryz.isAgg0
 z0 := Tryz.sizeOf0
 v0 := Tryz.zeroValue0
 t3 := Tryz.underlying3
 a3 := Tryz.isAgg3
 z3 := Tryz.sizeOf3
 v3 := Tryz.zeroValue3
 t4 := Tryz.underlying4
 a4 := Tryz.isAgg4
 z4 := Tryz.sizeOf4
 v4 := Tryz.zeroValue4
 t5 := Tryz.underlying5
 a5 := Tryz.isAgg5
 z5 := Tryz.sizeOf5
 v5 := Tryz.zeroValue5
 t9 := Tryz.underlying9
 a9 := Tryz.isAgg9
 z9 := Tryz.sizeOf9
 v9 := Tryz.zeroValue9
 t21 := Tryz.underlying21
 a21 := Tryz.isAgg21
 z21 := Tryz.sizeOf21
 v21 := Tryz.zeroValue21
 t31 := Tryz.underlying27
 a31 := Tryz.isAgg27
 z31 := Tryz.sizeOf27
 v31 := Tryz.zeroValue27
 t46 := Tryz.underlying107
 a46 := Tryz.isAgg107
 z46 := Tryz.sizeOf107
 v46 := Tryz.zeroValue107
 t51 := Tryz.underlying176
 a51 := Tryz.isAgg176
 z51 := Tryz.sizeOf176
 v51 := Tryz.zeroValue176
 t105 := Tryz.underlying131
 a105 := Tryz.isAgg131
 z105 := Tryz.sizeOf131
 v105 := Tryz.zeroValue131
 t119 := Tryz.underlying172
 a119 := Tryz.isAgg172
 z119 := Tryz.sizeOf172
 t138 := Tryz.underlying174
 a138 := Tryz.isAgg174
 z138 := Tryz.sizeOf174
 v138 := Tryz.zeroValue174
 t139 := Tryz.underlying175
 a139 := Tryz.isAgg175
 z139 := Tryz.sizeOf175
 v139 := Tryz.zeroValue175
 t146 := Tryz.underlying177
 a146 := Tryz.isAgg177
 z146 := Tryz.sizeOf177
 v146 := Tryz.zeroValue177
 g1 := by kernel_rfl
 g3 := by kernel_rfl
 g4 := by kernel_rfl }
open Go.RowKit Go.Lib in
theorem Tryz.strings_Split (s sep : ByteArray) (m : Int) (w : World) (hs : s.size < 4294967281) (hm : w.cell? ⟨0, 0, none⟩ = some (.int .i64 m)) (h1 : 1 ≤ sep.size) :
 Calls Tryz.prog 10 #[.string s, .string sep] w fun e w' =>
  e = .returned (.slice (some ⟨w.heap.size, 0, none⟩) (Lib.countB s sep + 1) (Lib.countB s sep + 1)) ∧ w' = w.alloc (.cells ((Lib.splitB sep 0 (Lib.countB s sep) s).map Value.string).toArray 9) := Any.strings_Split Tryz.lays146 (by kernel_rfl) s sep m w hs hm h1
def Tryz.lays194_ren : Go.Shelf.Ren := ⟨fun | 194 => 133 | n => n, fun | 31 => 27 | 9 => 9 | 3 => 3 | 4 => 4 | 0 => 0 | n => n, fun | n => n⟩
theorem Tryz.lays194 : Go.Proofs.Lays.n194 Tryz.prog Tryz.lays194_ren := {
 mixed := by kernel_rfl
 f194 := Tryz.func133.trans (congrArg some (by kernel_rfl))
 t0 := Tryz.underlying0
 a0 := Tryz.isAgg0
 z0 := Tryz.sizeOf0
 v0 := Tryz.zeroValue0
 t3 := Tryz.underlying3
 a3 := Tryz.isAgg3
 z3 := Tryz.sizeOf3
 v3 := Tryz.zeroValue3
 t4 := Tryz.underlying4
 a4 := Tryz.isAgg4
 z4 := Tryz.sizeOf4
 v4 := Tryz.zeroValue4
 t9 := Tryz.underlying9
 a9 := Tryz.isAgg9
 z9 := Tryz.sizeOf9
 v9 := Tryz.zeroValue9
 t31 := Tryz.underlying27
 a31 := Tryz.isAgg27
 z31 := Tryz.sizeOf27
 v31 := Tryz.zeroValue27 }
open Go.RowKit Go.Lib Go.Sort in
theorem Tryz.slices_Compact_string (blk off cap : Nat) (zs : List (List UInt8)) (w : World) (hH : Holds encStr w blk off zs.toArray) (hsz : zs.length ≤ 9223372036854775807) (hcap : zs.length ≤ cap) :
 Calls Tryz.prog 133 #[.slice (some ⟨blk, off, none⟩) zs.length cap] w fun e w' => e = .returned (.slice (some ⟨blk, off, none⟩) (Lib.compact zs).length cap) ∧ ∃ q, w' = putRow encStr (Sort.ahead w q) blk off (Lib.compact zs ++ List.replicate (zs.length - (Lib.compact zs).length) []).toArray := Any.slices_Compact_string Tryz.lays194 blk off cap zs w hH hsz hcap
open Go.RowKit Go.Lib Go.Sort in
theorem Tryz.slices_Compact_string_empty (a : Option Addr) (cap : Nat) (w : World) :
 Calls Tryz.prog 133 #[.slice a 0 cap] w fun e w' => e = .returned (.slice a 0 cap) ∧ w' = w := Any.slices_Compact_string_empty Tryz.lays194 a cap w
open Go.RowKit Go.Sort in
theorem Tryz.sort_Strings_none (p : Option Addr) (cap : Nat) (w : World) :
 Calls Tryz.prog 132 #[.slice p 0 cap] w fun e w' => e = .returned (.tuple #[]) ∧ w' = w := Any.sort_Strings_none Tryz.lays192 p cap w
end Go.Proofs
namespace Go.MC
open Go.Proofs Go.RowKit Go.Lib Go.Shelf
theorem rq {w w' : World} {ok : Nat → Prop} {ps : List PS} {rs : List RS} {out : List Dv} {vs : List Value} (bel : Below w.heap.size w w')
 (hres : o5 w' (fun b => ok b ∨ ((w.heap.size ≤ b ∨ b ∈ ([] : List Nat)) ∧ b < w'.heap.size ∧ b ∉ ([] : List Nat) ++ [])) 0 rs vs out [] []) (hbox : BX w' (fun b => ok b ∨ ((w.heap.size ≤ b ∨ b ∈ ([] : List Nat)) ∧ b < w'.heap.size ∧ b ∉ ([] : List Nat) ++ [])) ps [] [] []) :
 ∃ vs' rest own bs', Ending.returned (y5 vs) = .returned (y5 vs') ∧ w.heap.size ≤ w'.heap.size ∧ (∀ b, b < w.heap.size → b ∉ ([] : List Nat) → w'.heap[b]? = w.heap[b]?) ∧ w'.os = w.os ∧ w'.tape = w.tape ∧ w'.output = w.output ∧
   (own ++ bs').Nodup ∧ (∀ b ∈ own, b ∈ ([] : List Nat) ∨ (w.heap.size ≤ b ∧ b < w'.heap.size)) ∧ (∀ b ∈ bs', b ∈ ([] : List Nat) ∨ (w.heap.size ≤ b ∧ b < w'.heap.size)) ∧
   o5 w' (fun b => ok b ∨ ((w.heap.size ≤ b ∨ b ∈ ([] : List Nat)) ∧ b < w'.heap.size ∧ b ∉ own ++ bs')) 0 rs vs' out rest own ∧
   BX w' (fun b => ok b ∨ ((w.heap.size ≤ b ∨ b ∈ ([] : List Nat)) ∧ b < w'.heap.size ∧ b ∉ own ++ bs')) ps [] rest bs' :=
 ⟨vs, [], [], [], rfl, bel.size, fun b hb _ => bel.block b hb, bel.os, bel.tape, bel.output, List.nodup_nil, fun b h => by simp at h, fun b h => by simp at h, hres, hbox⟩
theorem sU {w : World} {ok : Nat → Prop} {s : List UInt8} {cs : List Value} {v : Value} (h : Rd w ok .str s cs) (hs : shape false cs v) : v = .string ⟨⟨s⟩⟩ ∧ s.length ≤ lim := by
 obtain ⟨rfl, h1⟩ := h
 have : [Value.string ⟨⟨s⟩⟩] = [v] := hs
 exact ⟨(List.cons.inj this).1.symm, h1⟩
theorem agx {w : World} {ok : Nat → Prop} {n : Int} {cs : List Value} {v : Value} (h : Rd w ok (.int .i64) n cs) (hs : shape false cs v) : v = .int .i64 n ∧ IntKind.i64.has n := by
 obtain ⟨rfl, h1⟩ := h
 have : [Value.int .i64 n] = [v] := hs
 exact ⟨(List.cons.inj this).1.symm, h1⟩
theorem Np {w : World} {ok : Nat → Prop} {t : Ty} {x : t.den} {v : Value} (h : Rd w ok t x [v]) : o5 w ok 0 [.d t false] [v] [⟨t, x⟩] [] [] :=
 ⟨v, [], x, [], [v], rfl, rfl, h, rfl, rfl, rfl, rfl⟩
theorem apM {w : World} {ok : Nat → Prop} (h : GV w ok) : ∃ m, w.cell? ⟨0, 0, none⟩ = some (.int .i64 m) := by
 obtain ⟨_, o, h1, h2⟩ := h 0 (by decide)
 obtain ⟨m, t, fr, rfl⟩ := h2.1 rfl
 exact ⟨m, by simp [World.cell?, h1]⟩
theorem XB (sep : List UInt8) : ∀ (k : Nat) (s : List UInt8), ∀ x ∈ Lib.splitK sep 0 k s, x.length ≤ s.length
 | 0, s, x, h => by
  simp only [Lib.splitK, List.mem_singleton] at h
  rw [h]; exact Nat.le_refl _
 | k + 1, s, x, h => by
  unfold Lib.splitK at h
  split at h
  ·simp only [List.mem_singleton] at h
   rw [h]; exact Nat.le_refl _
  ·rcases List.mem_cons.1 h with rfl | h
   ·rw [List.length_take]; omega
   ·have := XB sep k _ x h
    rw [List.length_drop] at this
    omega
def ji (N : Nat) : ax := aQ [.d (.str) false, .d (.str) false] true [.d (.slice (.str)) false] [.slice (.str)] (F.strings_Split N)
theorem lU (N : Nat) : ay Tryz.prog 10 (ji N) := by
 refine ⟨enters_of Tryz.func10 (by kernel_rfl) rfl, fun w ok args fargs ds hv bs hf ha hbn hbr hok hg hp => ?_⟩
 obtain ⟨v0, vs0, us0, rfl, rfl, v1, vs1, us1, rfl, rfl, rfl, rfl⟩ := hf
 obtain ⟨_, _, s, ds1, cs, he, rfl, h0, hsh0, ha⟩ := ha
 cases he
 obtain ⟨_, _, sep, ds2, cs2, he, rfl, h1, hsh1, ha⟩ := ha
 cases he
 obtain ⟨_, rfl, rfl, rfl⟩ := ha
 obtain ⟨rfl, hl0⟩ := sU h0 hsh0
 obtain ⟨rfl, hl1⟩ := sU h1 hsh1
 have hF : ∃ c, sep = [c] ∧ s.length < 4294967281 ∧ F.strings_Split N s sep = some (Lib.split s [c]) := by
  have h2 : iS (F.strings_Split N s sep) = true := hp
  match sep, h2 with
  | [c], h2 =>
   cases hb : decide (s.length < 4294967281) with
   | false => simp only [F.strings_Split, hb] at h2; cases h2
   | true => exact ⟨c, rfl, of_decide_eq_true hb, by simp only [F.strings_Split, hb]; rfl⟩
  | [], h2 => cases h2
  | _ :: _ :: _, h2 => cases h2
 obtain ⟨c, rfl, hs, hF⟩ := hF
 obtain ⟨m, hm⟩ := apM hg
 refine (Tryz.strings_Split ⟨⟨s⟩⟩ ⟨⟨[c]⟩⟩ m w hs hm (Nat.le_refl _)).mono ?_
 rintro e w' ⟨rfl, rfl⟩
 refine rq (vs := [_]) ⟨rfl, rfl, rfl, ?_, fun k hk => ?_⟩ ?_ ⟨rfl, rfl, rfl⟩
 ·simp
 ·show (w.heap.push _)[k]? = _
  rw [Array.getElem?_push, if_neg (by omega)]
 have hout : (ji N).out [⟨.str, s⟩, ⟨.str, [c]⟩] = [⟨.slice .str, Lib.split s [c]⟩] := by
  show KC [.slice .str] (gS (F.strings_Split N s [c]) (dfD [.slice .str])) = _
  rw [hF]; rfl
 rw [hout]
 refine Np ?_
 have hdata := Lib.splitB_data ⟨⟨[c]⟩⟩ 0 (Lib.countB ⟨⟨s⟩⟩ ⟨⟨[c]⟩⟩) ⟨⟨s⟩⟩
 have hsp : Lib.split s [c] = (Lib.splitB ⟨⟨[c]⟩⟩ 0 (Lib.countB ⟨⟨s⟩⟩ ⟨⟨[c]⟩⟩) ⟨⟨s⟩⟩).map (·.data.toList) := hdata.symm
 have hlen : (Lib.split s [c]).length = Lib.countB ⟨⟨s⟩⟩ ⟨⟨[c]⟩⟩ + 1 := by
  rw [hsp, List.length_map]
  exact Lib.splitB_all ⟨⟨[c]⟩⟩ (Nat.le_refl _) 0 _ ⟨⟨s⟩⟩ rfl
 have hcnt : Lib.countB ⟨⟨s⟩⟩ ⟨⟨[c]⟩⟩ ≤ s.length + 1 := Lib.count_le s [c]
 have hlim : (5000000000 : Nat) ≤ lim := by decide
 have hrows : ∀ (w : World) (ok : Nat → Prop), bW w ok .str (Lib.split s [c]) ((Lib.splitB ⟨⟨[c]⟩⟩ 0 (Lib.countB ⟨⟨s⟩⟩ ⟨⟨[c]⟩⟩) ⟨⟨s⟩⟩).map Value.string) := fun w ok => by
  refine lq.2 ⟨?_, fun x hx => Nat.le_trans (XB [c] _ s x hx) (by omega)⟩
  rw [hsp, List.map_map]
  exact List.map_congr_left fun x _ => by cases x; rfl
 have := (hrows (w.alloc (.cells ((Lib.splitB ⟨⟨[c]⟩⟩ 0 (Lib.countB ⟨⟨s⟩⟩ ⟨⟨[c]⟩⟩) ⟨⟨s⟩⟩).map Value.string).toArray 9)) (fun b => ok b ∨ ((w.heap.size ≤ b ∨ b ∈ ([] : List Nat)) ∧ b < (w.alloc (.cells ((Lib.splitB ⟨⟨[c]⟩⟩ 0 (Lib.countB ⟨⟨s⟩⟩ ⟨⟨[c]⟩⟩) ⟨⟨s⟩⟩).map Value.string).toArray 9)).heap.size ∧ b ∉ ([] : List Nat) ++ []))).slice ⟨w.heap.size, 0, none⟩ (Lib.countB ⟨⟨s⟩⟩ ⟨⟨[c]⟩⟩ + 1) ?_ ?_ (by omega) (by omega)
 ·rw [hlen] at this; exact this
 ·intro _ i v hi
  rw [Addr.add_lit, Nat.zero_add]
  have hg : (w.alloc (.cells ((Lib.splitB ⟨⟨[c]⟩⟩ 0 (Lib.countB ⟨⟨s⟩⟩ ⟨⟨[c]⟩⟩) ⟨⟨s⟩⟩).map Value.string).toArray 9)).heap[w.heap.size]? = some (.cells ((Lib.splitB ⟨⟨[c]⟩⟩ 0 (Lib.countB ⟨⟨s⟩⟩ ⟨⟨[c]⟩⟩) ⟨⟨s⟩⟩).map Value.string).toArray 9) := by
   show (w.heap.push _)[w.heap.size]? = _
   rw [Array.getElem?_push, if_pos rfl]
  unfold World.cell?
  rw [hg]
  simp only [Option.isSome_none, Bool.false_eq_true, if_false, List.getElem?_toArray]
  exact hi
 ·intro _
  refine .inr ⟨.inl (Nat.le_refl _), ?_, by simp⟩
  show w.heap.size < (w.heap.push _).size
  rw [Array.size_push]; omega
end Go.MC
namespace Go.MC
open Go.Proofs Go.RowKit Go.Lib Go.Shelf Go.Sort
theorem ab7 (w : World) (n : Nat) : Below w.heap.size w (w.drewN n) := ⟨rfl, rfl, rfl, Nat.le_refl _, fun _ _ => rfl⟩
theorem Tj (w : World) (q : Nat) (os : Array Obj) : Below w.heap.size w (grow (w.drewN q) os) :=
 ⟨rfl, rfl, rfl, by show w.heap.size ≤ (w.heap ++ os).size; simp, fun i hi => by
  show (w.heap ++ os)[i]? = _
  rw [Array.getElem?_append_left hi]⟩
theorem awV {w : World} {ok : Nat → Prop} (h : GV w ok) : Lib.TabIs Tryz.prog w "internal/strconv.uint64pow10" .u64 Lib.pow10Tab := by
 obtain ⟨_, o, h1, h2⟩ := h 5 (by decide)
 obtain ⟨t, fr, rfl⟩ := h2.2 rfl
 unfold Lib.TabIs World.var?
 rw [show Tryz.prog.globalNamed "internal/strconv.uint64pow10" = some 5 by kernel_rfl]
 simp only [Option.bind_some, h1]
def qK (N : Nat) : ax := aQ [.d (.str) false, .d (.str) false] false [.d (.str) false, .d (.str) false, .d (.bool) false] [.str, .str, .bool] (F.strings_Cut N)
theorem Oh (N : Nat) : ay Tryz.prog 87 (qK N) := by
 refine ⟨enters_of Tryz.func87 (by kernel_rfl) rfl, fun w ok args fargs ds hv bs hf ha hbn hbr hok hg hp => ?_⟩
 obtain ⟨v0, vs0, us0, rfl, rfl, v1, vs1, us1, rfl, rfl, rfl, rfl⟩ := hf
 obtain ⟨_, _, s, ds1, cs, he, rfl, h0, hsh0, ha⟩ := ha
 cases he
 obtain ⟨_, _, sep, ds2, cs2, he, rfl, h1, hsh1, ha⟩ := ha
 cases he
 obtain ⟨_, rfl, rfl, rfl⟩ := ha
 obtain ⟨rfl, hl0⟩ := sU h0 hsh0
 obtain ⟨rfl, hl1⟩ := sU h1 hsh1
 have hF : ∃ c, sep = [c] ∧ s.length < 4294967281 ∧ F.strings_Cut N s sep = some (Lib.cut s [c]) := by
  have h2 : iS (F.strings_Cut N s sep) = true := hp
  match sep, h2 with
  | [c], h2 =>
   cases hb : decide (s.length < 4294967281) with
   | false => simp only [F.strings_Cut, hb] at h2; cases h2
   | true => exact ⟨c, rfl, of_decide_eq_true hb, by simp only [F.strings_Cut, hb]; rfl⟩
  | [], h2 => cases h2
  | _ :: _ :: _, h2 => cases h2
 obtain ⟨c, rfl, hs, hF⟩ := hF
 obtain ⟨m, hm⟩ := apM hg
 refine (Tryz.strings_Cut ⟨⟨s⟩⟩ ⟨⟨[c]⟩⟩ m w hs hm).mono ?_
 rintro e w' ⟨rfl, n, rfl⟩
 have hout : (qK N).out [⟨.str, s⟩, ⟨.str, [c]⟩] = [⟨.str, (Lib.cut s [c]).1⟩, ⟨.str, (Lib.cut s [c]).2.1⟩, ⟨.bool, (Lib.cut s [c]).2.2⟩] := by
  show KC [.str, .str, .bool] (gS (F.strings_Cut N s [c]) (dfD [.str, .str, .bool])) = _
  rw [hF]; rfl
 have hle : (Lib.cut s [c]).1.length ≤ s.length ∧ (Lib.cut s [c]).2.1.length ≤ s.length := by
  unfold Lib.cut
  split
  ·simp only [List.length_take, List.length_drop]; omega
  ·simp
 refine rq (vs := [.string ⟨(Lib.cut s [c]).1.toArray⟩, .string ⟨(Lib.cut s [c]).2.1.toArray⟩, .bool (Lib.cut s [c]).2.2]) (ab7 w n) ?_ ⟨rfl, rfl, rfl⟩
 rw [hout]
 exact ⟨_, _, (Lib.cut s [c]).1, _, _, rfl, rfl, ⟨rfl, by omega⟩, rfl, _, _, (Lib.cut s [c]).2.1, _, _, rfl, rfl, ⟨rfl, by omega⟩, rfl, _, _, (Lib.cut s [c]).2.2, _, _, rfl, rfl, rfl, rfl, rfl, rfl, rfl⟩
def mW (N : Nat) : ax := aQ [.d (.str) false, .d (.str) false] false [.d (.int .i64) false] [.int .i64] (F.strings_Count N)
theorem Fz (N : Nat) : ay Tryz.prog 74 (mW N) := by
 refine ⟨enters_of Tryz.func74 (by kernel_rfl) rfl, fun w ok args fargs ds hv bs hf ha hbn hbr hok hg hp => ?_⟩
 obtain ⟨v0, vs0, us0, rfl, rfl, v1, vs1, us1, rfl, rfl, rfl, rfl⟩ := hf
 obtain ⟨_, _, s, ds1, cs, he, rfl, h0, hsh0, ha⟩ := ha
 cases he
 obtain ⟨_, _, sep, ds2, cs2, he, rfl, h1, hsh1, ha⟩ := ha
 cases he
 obtain ⟨_, rfl, rfl, rfl⟩ := ha
 obtain ⟨rfl, hl0⟩ := sU h0 hsh0
 obtain ⟨rfl, hl1⟩ := sU h1 hsh1
 have hF : ∃ c, sep = [c] ∧ F.strings_Count N s sep = some ((Lib.countByte s c : Nat) : Int) := by
  have h2 : iS (F.strings_Count N s sep) = true := hp
  match sep, h2 with
  | [c], h2 => exact ⟨c, rfl, rfl⟩
  | [], h2 => cases h2
  | _ :: _ :: _, h2 => cases h2
 obtain ⟨c, rfl, hF⟩ := hF
 refine (Tryz.strings_Count_one ⟨⟨s⟩⟩ c w).mono ?_
 rintro e w' ⟨rfl, rfl⟩
 have hout : (mW N).out [⟨.str, s⟩, ⟨.str, [c]⟩] = [⟨.int .i64, ((Lib.countByte s c : Nat) : Int)⟩] := by
  show KC [.int .i64] (gS (F.strings_Count N s [c]) (dfD [.int .i64])) = _
  rw [hF]; rfl
 refine rq (vs := [.int .i64 ((Lib.countByte s c : Nat) : Int)]) (Below.refl _ _) ?_ ⟨rfl, rfl, rfl⟩
 rw [hout]
 refine Np ⟨rfl, ?_⟩
 have : Lib.countByte s c ≤ s.length := List.count_le_length
 have hl : lim = 140737488355328 := rfl
 show (-9223372036854775808 : Int) ≤ _ ∧ _ ≤ (9223372036854775807 : Int)
 omega
def oP (N : Nat) : ax := aQ [.d (.str) false] false [.d (.int .i64) false, .any] [.int .i64] (F.strconv_Atoi N)
theorem as5 {s : List UInt8} {n : Int} (hl : s.length ≤ 18) (h : Lib.atoi s = some n) : -1000000000000000000 < n ∧ n < 1000000000000000000 := by
 have key : ∀ l : List UInt8, l.length ≤ 18 → ∀ m, Lib.decNat l = some m → m < 1000000000000000000 := fun l hl m hm => Lib.decFrom_lt18 (Lib.decNat_some hm).2 hl
 cases s with
 | nil => cases h
 | cons b r =>
  have hr : r.length ≤ 18 := by simp at hl; omega
  replace h : (if b == 45 then (Lib.decNat r).map fun (m : Nat) => -(m : Int) else if b == 43 then (Lib.decNat r).map fun (m : Nat) => (m : Int) else (Lib.decNat (b :: r)).map fun (m : Nat) => (m : Int)) = some n := h
  split at h
  ·obtain ⟨m, hm, rfl⟩ := Option.map_eq_some_iff.1 h
   have := key r hr m hm
   omega
  ·split at h
   ·obtain ⟨m, hm, rfl⟩ := Option.map_eq_some_iff.1 h
    have := key r hr m hm
    omega
   ·obtain ⟨m, hm, rfl⟩ := Option.map_eq_some_iff.1 h
    have := key _ hl m hm
    omega
theorem LK (N : Nat) : ay Tryz.prog 81 (oP N) := by
 refine ⟨enters_of Tryz.func81 (by kernel_rfl) rfl, fun w ok args fargs ds hv bs hf ha hbn hbr hok hg hp => ?_⟩
 obtain ⟨v0, vs0, us0, rfl, rfl, rfl, rfl⟩ := hf
 obtain ⟨_, _, s, ds1, cs, he, rfl, h0, hsh0, ha⟩ := ha
 cases he
 obtain ⟨_, rfl, rfl, rfl⟩ := ha
 obtain ⟨rfl, hl0⟩ := sU h0 hsh0
 have hF : s.length ≤ 18 ∧ ∃ n, Lib.atoi s = some n ∧ F.strconv_Atoi N s = some n := by
  have h2 : iS (F.strconv_Atoi N s) = true := hp
  unfold F.strconv_Atoi at h2 ⊢
  cases hb : decide (s.length ≤ 18) with
  | false => rw [hb] at h2; cases h2
  | true =>
   rw [hb] at h2
   simp only [cond_true] at h2 ⊢
   cases hn : Lib.atoi s with
   | none => rw [hn] at h2; cases h2
   | some n => exact ⟨of_decide_eq_true hb, n, rfl, rfl⟩
 obtain ⟨hs, n, hn, hF⟩ := hF
 refine (Tryz.strconv_Atoi ⟨⟨s⟩⟩ n hs hn w).mono ?_
 rintro e w' ⟨rfl, t, rfl⟩
 have hout : (oP N).out [⟨.str, s⟩] = [⟨.int .i64, n⟩] := by
  show KC [.int .i64] (gS (F.strconv_Atoi N s) (dfD [.int .i64])) = _
  rw [hF]; rfl
 refine rq (vs := [.int .i64 n, .nilIface]) (Lib.bytesWorld_below w _ t) ?_ ⟨rfl, rfl, rfl⟩
 rw [hout]
 have := as5 hs hn
 have hn : IntKind.i64.has n := by
  show (-9223372036854775808 : Int) ≤ _ ∧ _ ≤ (9223372036854775807 : Int)
  omega
 exact ⟨_, _, n, _, _, rfl, rfl, ⟨rfl, hn⟩, rfl, _, _, rfl, rfl, rfl, rfl⟩
def kX (N : Nat) : ax := aQ [.d (.int .i64) false] false [.d (.str) false] [.str] (F.strconv_Itoa N)
theorem w_ : ∀ (k u : Nat), u < 10 ^ (k + 1) → (Lib.decDigits u).length ≤ k + 1
 | 0, u, h => by rw [Lib.decDigits, dif_pos (by simpa using h)]; simp
 | k + 1, u, h => by
  rw [Lib.decDigits]
  split
  ·simp
  ·have := w_ k (u / 10) (by rw [Nat.pow_succ] at h; omega)
   rw [List.length_append]
   simp only [List.length_cons, List.length_nil]
   omega
theorem asB {n : Int} (h0 : -9223372036854775808 ≤ n) (h1 : n ≤ 9223372036854775807) : (Lib.itoa n).length ≤ 21 := by
 unfold Lib.itoa
 split
 ·have := w_ 19 n.natAbs (by omega)
  simp only [List.length_cons]; omega
 ·have := w_ 19 n.toNat (by omega)
  omega
theorem t_ (N : Nat) : ay Tryz.prog 52 (kX N) := by
 refine ⟨enters_of Tryz.func52 (by kernel_rfl) rfl, fun w ok args fargs ds hv bs hf ha hbn hbr hok hg hp => ?_⟩
 obtain ⟨v0, vs0, us0, rfl, rfl, rfl, rfl⟩ := hf
 obtain ⟨_, _, n, ds1, cs, he, rfl, h0, hsh0, ha⟩ := ha
 cases he
 obtain ⟨_, rfl, rfl, rfl⟩ := ha
 obtain ⟨rfl, hn⟩ := agx h0 hsh0
 have hF : -9223372036854775808 ≤ n ∧ n ≤ 9223372036854775807 ∧ F.strconv_Itoa N n = some (Lib.itoa n) := by
  have h2 : iS (F.strconv_Itoa N n) = true := hp
  unfold F.strconv_Itoa at h2 ⊢
  cases hb : (decide (-9223372036854775808 ≤ n) && decide (n ≤ 9223372036854775807)) with
  | false => rw [hb] at h2; cases h2
  | true =>
   simp only [Bool.and_eq_true, decide_eq_true_eq] at hb
   exact ⟨hb.1, hb.2, rfl⟩
 obtain ⟨hn0, hn1, hF⟩ := hF
 refine (Tryz.strconv_Itoa n hn0 hn1 w (awV hg)).mono ?_
 rintro e w' ⟨rfl, k, os, rfl⟩
 have hout : (kX N).out [⟨.int .i64, n⟩] = [⟨.str, Lib.itoa n⟩] := by
  show KC [.str] (gS (F.strconv_Itoa N n) (dfD [.str])) = _
  rw [hF]; rfl
 refine rq (vs := [.string ⟨(Lib.itoa n).toArray⟩]) (Tj w k os) ?_ ⟨rfl, rfl, rfl⟩
 rw [hout]
 have hl : (21 : Nat) ≤ lim := by decide
 exact Np ⟨rfl, Nat.le_trans (asB hn0 hn1) hl⟩
def oQ (N : Nat) : ax := aQ [.d (.slice (.str)) false, .d (.str) false] false [.d (.str) false] [.str] (F.strings_Join N)
theorem Lh (N : Nat) : ay Tryz.prog 92 (oQ N) := by
 refine ⟨enters_of Tryz.func92 (by kernel_rfl) rfl, fun w ok args fargs ds hv bs hf ha hbn hbr hok hg hp => ?_⟩
 obtain ⟨v0, vs0, us0, rfl, rfl, v1, vs1, us1, rfl, rfl, rfl, rfl⟩ := hf
 obtain ⟨_, _, xs, ds1, cs, he, rfl, h0, hsh0, ha⟩ := ha
 cases he
 obtain ⟨_, _, sep, ds2, cs2, he, rfl, h1, hsh1, ha⟩ := ha
 cases he
 obtain ⟨_, rfl, rfl, rfl⟩ := ha
 obtain ⟨rfl, hl1⟩ := sU h1 hsh1
 have hc : cs = [v0] := hsh0
 subst hc
 have hF : (Lib.join xs sep).length ≤ lim ∧ F.strings_Join N xs sep = some (Lib.join xs sep) := by
  have h2 : iS (F.strings_Join N xs sep) = true := hp
  unfold F.strings_Join at h2 ⊢
  cases hb : decide ((Lib.join xs sep).length ≤ lim) with
  | false => rw [hb] at h2; cases h2
  | true => exact ⟨of_decide_eq_true hb, rfl⟩
 obtain ⟨hlen, hF⟩ := hF
 have hout : (oQ N).out [⟨.slice .str, xs⟩, ⟨.str, sep⟩] = [⟨.str, Lib.join xs sep⟩] := by
  show KC [.str] (gS (F.strings_Join N xs sep) (dfD [.str])) = _
  rw [hF]; rfl
 have h0' := h0
 obtain ⟨a, cap, hv0, hcap, hxl, _⟩ := h0'
 have hv0 : v0 = .slice a xs.length cap := (List.cons.inj hv0).1
 subst hv0
 obtain ⟨us, hr, _, hat⟩ := h0.rows
 obtain ⟨rfl, hxl'⟩ := lq.1 hr
 cases xs with
 | nil =>
  refine (Tryz.strings_Join_none a cap ⟨⟨sep⟩⟩ w).mono ?_
  rintro e w' ⟨rfl, rfl⟩
  refine rq (vs := [.string ⟨#[]⟩]) (Below.refl _ _) ?_ ⟨rfl, rfl, rfl⟩
  rw [hout]
  exact Np ⟨rfl, Nat.zero_le _⟩
 | cons x xs =>
  obtain ⟨ad, rfl, hokad, hcells⟩ := hat (by simp)
  have hc0 := hcells 0 (encStr x) rfl
  obtain ⟨bk, o, sp⟩ := ad
  have hsp : sp = none := by
   cases sp with
   | none => rfl
   | some q =>
    exfalso
    unfold World.cell? at hc0
    split at hc0
    ·simp [Addr.add] at hc0
    ·cases hc0
  subst hsp
  have hbk : bk < w.heap.size := by
   have := World.block_lt_of_cell? w _ hc0
   rwa [Addr.add_lit] at this
  have hmm : ((x :: xs).map fun s => (⟨⟨s⟩⟩ : ByteArray)).map (·.data.toList) = x :: xs := by
   rw [List.map_map]
   exact List.map_id'' (fun _ => rfl) _
  have hml : ((x :: xs).map fun s => (⟨⟨s⟩⟩ : ByteArray)).length = (x :: xs).length := List.length_map ..
  have call := Tryz.strings_Join bk o cap ((x :: xs).map fun s => (⟨⟨s⟩⟩ : ByteArray)) ⟨⟨sep⟩⟩ w (fun j y hj => by
   rw [List.getElem?_map] at hj
   obtain ⟨s, hs, rfl⟩ := Option.map_eq_some_iff.1 hj
   have := hcells j (encStr s) (by rw [List.getElem?_map, hs]; rfl)
   rwa [Addr.add_lit] at this) hbk (by rw [hml]; exact hxl) (by rw [hml]; exact hcap) (by rw [hmm]; exact hlen)
  rw [hml, hmm] at call
  refine call.mono ?_
  rintro e w' ⟨rfl, bel⟩
  refine rq (vs := [.string ⟨(Lib.join (x :: xs) sep).toArray⟩]) bel ?_ ⟨rfl, rfl, rfl⟩
  rw [hout]
  exact Np ⟨rfl, hlen⟩
end Go.MC
namespace Go.MC
open Go.Proofs Go.RowKit Go.Lib Go.Shelf
set_option maxHeartbeats 4000000 in
set_option maxRecDepth 1000000 in
theorem ajX (b1 b2 blk off ns cap blk2 off2 nw cap2 : Nat) (nm x : ByteArray) (i : Nat) (W : World) (hi : i < ns) (hn : 1 < nw)
 (hS : W.cell? ⟨b1, 1, none⟩ = some (.slice (some ⟨blk, off, none⟩) ns cap)) (hW : W.cell? ⟨b2, 0, none⟩ = some (.slice (some ⟨blk2, off2, none⟩) nw cap2))
 (hnm : W.cell? ⟨blk, off + i * 5, none⟩ = some (.string nm)) (hx : W.cell? ⟨blk2, off2 + 1, none⟩ = some (.string x)) :
 Calls Tryz.prog 42 (#[.int .i64 i] ++ #[.pointer (some ⟨b1, 0, none⟩), .pointer (some ⟨b2, 0, none⟩)]) W fun e w' => e = .returned (.bool (!(Op.bytesLess nm.toList x.toList))) ∧ ∃ q, w' = W.drewN q := by
 have hiz : (i : Int) < (ns : Int) := by omega
 have hnz : (1 : Int) < (nw : Int) := by omega
 go_enter Tryz.func42, Tryz.ntmps42
 go_wp2
 go_still (show Tryz.prog.follows .mixedOrders = true by kernel_rfl)
 go_wp2
 go_ret
 exact ⟨rfl, 1, rfl⟩
end Go.MC
namespace Go.Proofs
open Go.Shelf Go.RowKit Go.Lib Go.Sort
def Tryz.laysSlO16_ren : Go.Shelf.Ren := ⟨fun | 16 => 41 | n => n, fun | 3 => 3 | 4 => 4 | 35 => 79 | 38 => 107 | n => n, fun | n => n⟩
theorem Tryz.laysSlO16 : Go.Proofs.SlLaysO.n16 Tryz.prog Tryz.laysSlO16_ren := {
 mixed := by kernel_rfl
 f16 := Tryz.func41.trans (congrArg some (by kernel_rfl))
 t3 := Tryz.underlying3
 a3 := Tryz.isAgg3
 z3 := Tryz.sizeOf3
 v3 := Tryz.zeroValue3
 t4 := Tryz.underlying4
 a4 := Tryz.isAgg4
 z4 := Tryz.sizeOf4
 v4 := Tryz.zeroValue4
 t35 := Tryz.underlying79
 a35 := Tryz.isAgg79
 z35 := Tryz.sizeOf79
 v35 := Tryz.zeroValue79
 t38 := Tryz.underlying107
 a38 := Tryz.isAgg107
 z38 := Tryz.sizeOf107
 v38 := Tryz.zeroValue107 }
theorem Tryz.sort_Search (g : Nat) (cb : Array Value) (n : Nat) (p : Nat → Bool) (w : World) (eg : ∀ args w, (callFunc g args).run Tryz.prog w = .ok (.enter g args) w) (hsz : n < 4611686018427387904)
 (hf : ∀ (m : Nat) (os : Array Obj) (i : Nat), i < n → Calls Tryz.prog g (#[.int .i64 i] ++ cb) (grow (w.drewN m) os) fun e w' => e = .returned (.bool (p i)) ∧ ∃ q os', w' = grow ((grow (w.drewN m) os).drewN q) os')
 (hmono : ∀ a b, a ≤ b → b < n → p a = true → p b = true) :
 Calls Tryz.prog 41 #[.int .i64 n, .func (.func g) #[] cb] w fun e w' => e = .returned (.int .i64 ((List.range n).countP (fun i => !p i) : Nat)) ∧ ∃ q os, w' = grow (w.drewN q) os :=
 Any.sort_Search Tryz.laysSlO16 g cb n p w eg hsz hf hmono
end Go.Proofs
namespace Go.MC
open Go.Proofs Go.RowKit Go.Lib Go.Shelf Go.Sort
theorem Rd.elem {w : World} {ok : Nat → Prop} {r : Ty} {xs : List r.den} {v : Value} (h : Rd w ok (.slice r) xs [v]) {i : Nat} (hi : i < xs.length) :
 ∃ b o cap cs, v = .slice (some ⟨b, o, none⟩) xs.length cap ∧ Rd w ok r (xs.getD i r.dflt) cs ∧ ∀ j u, cs[j]? = some u → w.cell? ⟨b, o + (i * r.sz + j), none⟩ = some u := by
 obtain ⟨a, cap, hv, _, _, hx⟩ := h
 obtain ⟨ad, cs, rfl, hok, hr, hc⟩ := hx i xs[i] (List.getElem?_eq_getElem hi)
 obtain ⟨ad0, cs0, e0, _, hr0, hc0⟩ := hx 0 xs[0] (List.getElem?_eq_getElem (by omega))
 cases e0
 have hv : v = .slice (some ad) xs.length cap := (List.cons.inj hv).1
 obtain ⟨b, o, sp⟩ := ad
 have hsp : sp = none := by
  have hl := hr0.length
  have hz := r.sz_pos
  have h0 := hc0 0 cs0[0] (List.getElem?_eq_getElem (by omega))
  rw [Nat.zero_mul, Nat.add_zero] at h0
  cases sp with
  | none => rfl
  | some q =>
   exfalso
   unfold World.cell? at h0
   split at h0
   ·simp [Addr.add] at h0
   ·cases h0
 subst hsp
 refine ⟨b, o, cap, cs, hv, ?_, fun j u hj => ?_⟩
 ·rw [List.getD_eq_getElem?_getD, List.getElem?_eq_getElem hi]; exact hr
 ·have := hc j u hj
  rwa [Addr.add_lit] at this
def jg (N : Nat) : ax := aQ [.d (.int .i64) false, .cr 42 [aV, .slice (.str)]] false [.d (.int .i64) false] [.int .i64] (F.dY N)
theorem sW (N : Nat) : ay Tryz.prog 41 (jg N) := by
 refine ⟨enters_of Tryz.func41 (by kernel_rfl) rfl, fun w ok args fargs ds hv bs hf ha hbn hbr hok hg hp => ?_⟩
 obtain ⟨v0, vs0, us0, rfl, rfl, caps, vs1, us1, rfl, rfl, hcl, rfl, rfl⟩ := hf
 replace ha : mg w ok [.d (.int .i64) false, .rx aV, .rx (.slice (.str))] (v0 :: (caps ++ [])) ds hv bs := ha
 obtain ⟨_, _, n, ds1, cs, he, rfl, h0, hsh0, ha⟩ := ha
 cases he
 obtain ⟨b1, vs1, bk, ds2, cs1, T1, he1, rfl, hok1, hh1, hr1, ha⟩ := ha
 obtain ⟨b2, vs2, ws, ds3, cs2, T2, rfl, rfl, hok2, hh2, hr2, ha⟩ := ha
 obtain ⟨rfl, rfl, rfl, rfl⟩ := ha
 have hcaps : caps = [.pointer (some ⟨b1, 0, none⟩), .pointer (some ⟨b2, 0, none⟩)] := by simpa using he1
 subst hcaps
 obtain ⟨rfl, hn⟩ := agx h0 hsh0
 have hF : 0 ≤ n ∧ n ≤ (bk.2.1.length : Int) ∧ n < 4611686018427387904 ∧ 1 < ws.length ∧ ((List.range n.toNat).all fun i => (List.range n.toNat).all fun j => !(decide (i ≤ j) && F.o6 bk ws i) || F.o6 bk ws j) = true ∧
  F.dY N n bk ws = some (((List.range n.toNat).countP fun i => !F.o6 bk ws i : Nat) : Int) := by
  have h2 : iS (F.dY N n bk ws) = true := hp
  unfold F.dY at h2 ⊢
  cases hb : (decide (0 ≤ n) && (decide (n ≤ (bk.2.1.length : Int)) && (decide (n < 4611686018427387904) && (decide (1 < ws.length) && (List.range n.toNat).all fun i => (List.range n.toNat).all fun j => !(decide (i ≤ j) && F.o6 bk ws i) || F.o6 bk ws j)))) with
  | false => rw [hb] at h2; cases h2
  | true =>
   have hb' := hb
   simp only [Bool.and_eq_true, decide_eq_true_eq] at hb'
   exact ⟨hb'.1, hb'.2.1, hb'.2.2.1, hb'.2.2.2.1, hb'.2.2.2.2, rfl⟩
 obtain ⟨hn0, hn1, hn2, hw1, hmono, hF⟩ := hF
 obtain ⟨k, rfl⟩ := Int.eq_ofNat_of_zero_le hn0
 have hk : k ≤ bk.2.1.length := Int.ofNat_le.1 hn1
 have hk2 : k < 4611686018427387904 := Int.ofNat_lt.1 hn2
 -- the boxes' cells
 obtain ⟨c1, c2, rfl, hfoe, c3, c4, rfl, hspot, _⟩ := hr1
 obtain ⟨x1, rfl⟩ : ∃ x, c1 = [x] := List.length_eq_one_iff.1 hfoe.length
 obtain ⟨vS, rfl⟩ : ∃ x, c3 = [x] := List.length_eq_one_iff.1 hspot.length
 obtain ⟨vW, rfl⟩ : ∃ x, cs2 = [x] := List.length_eq_one_iff.1 hr2.length
 have hcS : w.cell? ⟨b1, 1, none⟩ = some vS := by simp [World.cell?, hh1]
 have hcW : w.cell? ⟨b2, 0, none⟩ = some vW := by simp [World.cell?, hh2]
 obtain ⟨bw, ow, capw, csw, rfl, hrw, hcw⟩ := hr2.elem hw1
 obtain ⟨rfl, _⟩ : csw = [.string ⟨⟨ws.getD 1 []⟩⟩] ∧ _ := hrw
 have hxw := hcw 0 _ rfl
 have hgo : ∀ {a : Addr} {v : Value}, w.cell? a = some v → ∀ m os, (grow (w.drewN m) os).cell? a = some v := fun h m os => cell_grown (World.block_lt_of_cell? _ _ h) h m os
 refine (Tryz.sort_Search 42 #[.pointer (some ⟨b1, 0, none⟩), .pointer (some ⟨b2, 0, none⟩)] k (F.o6 bk ws) w (enters_of Tryz.func42 (by kernel_rfl) rfl) (by omega) ?_ ?_).mono ?_
 ·intro m os i hi
  obtain ⟨bs', os', caps', css, rfl, hrs, hcs⟩ := hspot.elem (i := i) (by omega)
  obtain ⟨d1, d2, rfl, ⟨rfl, _⟩, _⟩ := hrs
  have hnm := hcs 0 _ rfl
  refine (ajX b1 b2 bs' os' _ _ bw ow _ _ ⟨⟨(bk.2.1.getD i (Ty.dflt b_)).1⟩⟩ ⟨⟨ws.getD 1 []⟩⟩ i _ (by omega) hw1 (hgo hcS m os) (hgo hcW m os) (hgo hnm m os) (hgo hxw m os)).mono ?_
  rintro e w' ⟨rfl, q, rfl⟩
  exact ⟨by rw [Lib.toList_data, Lib.toList_data]; rfl, q, #[], by rw [grow_empty]⟩
 ·intro a b hab hb hpa
  have h1 := List.all_eq_true.1 hmono a (List.mem_range.2 (by omega))
  have h2 := List.all_eq_true.1 h1 b (List.mem_range.2 hb)
  rw [decide_eq_true hab, hpa] at h2
  simpa using h2
 rintro e w' ⟨rfl, q, os, rfl⟩
 have hout : (jg N).out [⟨.int .i64, (k : Int)⟩, ⟨aV, bk⟩, ⟨.slice .str, ws⟩] = [⟨.int .i64, (((List.range k).countP fun i => !F.o6 bk ws i : Nat) : Int)⟩] := by
  show KC [.int .i64] (gS (F.dY N (k : Int) bk ws) (dfD [.int .i64])) = _
  rw [hF]; rfl
 refine rq (vs := [.int .i64 (((List.range k).countP fun i => !F.o6 bk ws i : Nat) : Int)]) (Tj w q os) ?_ ⟨rfl, rfl, rfl⟩
 rw [hout]
 refine Np ⟨rfl, ?_⟩
 have : (List.range k).countP (fun i => !F.o6 bk ws i) ≤ (List.range k).length := List.countP_le_length
 rw [List.length_range] at this
 show (-9223372036854775808 : Int) ≤ _ ∧ _ ≤ (9223372036854775807 : Int)
 omega
end Go.MC
namespace Go.MC
open Go.Proofs Go.RowKit Go.Lib Go.Shelf
theorem Rq {P : Program} (w : World) (t e ty : TypeId) (z : Value) (sz : Nat) (ht : P.underlying t = some (.slice e)) (hv : ∀ w, (zeroValue e).run P w = .ok z w) (b o n c : Nat) (hn : 0 < n) (hzl : (Builtin.zeroCells z.cells n).toList.length = n * sz) (h1 : ∀ u ∈ (Builtin.zeroCells z.cells n).toList, u.oneCell' = true)
 (hc : ∀ j, j < n * sz → (w.cell? ⟨b, o + j, none⟩).isSome = true) (hf : ∀ j, j < n * sz → w.frozen? ⟨b, o + j, none⟩ = false) :
 (Builtin.clear_ #[t] ty #[.slice (some ⟨b, o, none⟩) n c]).run P w = .ok (.tuple #[]) (w.setCells b o (Builtin.zeroCells z.cells n).toList) := by
 have hst := run_storeCells_cells (P := P) b o (Builtin.zeroCells z.cells n).toList 0 w (by simpa [hzl] using hc) (by simpa [hzl] using hf) h1
 simp only [Nat.add_zero] at hst
 obtain ⟨m, rfl⟩ : ∃ m, n = m + 1 := ⟨n - 1, by omega⟩
 simp only [Builtin.clear_]
 simp [run_underlying ht, hv, hst]
theorem awQ : (Tryz.prog.info? 91).map (fun i => (i.zero, i.size, i.bytes)) = some (some (.agg #[.int .i64 0, .int .i64 0, .slice none 0 0, .slice none 0 0, .slice none 0 0, .slice none 0 0, .bool false]), 7, 120) := by kernel_rfl
def z91 : Value := .agg #[.int .i64 0, .int .i64 0, .slice none 0 0, .slice none 0 0, .slice none 0 0, .slice none 0 0, .bool false]
def abQ : List Value := [.int .i64 0, .int .i64 0, .slice none 0 0, .slice none 0 0, .slice none 0 0, .slice none 0 0, .bool false]
theorem awj : (Builtin.zeroCells z91.cells 1).toList = abQ := by kernel_rfl
set_option maxHeartbeats 4000000 in
set_option maxRecDepth 1000000 in
theorem aqC (blk cap m i : Nat) (cs : List Value) (w : World) (hc : ∀ t u, cs[t]? = some u → w.cell? ⟨blk, t, none⟩ = some u) (hf : ∀ t, t < cs.length → w.frozen? ⟨blk, t, none⟩ = false) (h1 : ∀ t u, t < (m + 1) * 7 → cs[t]? = some u → u.oneCell' = true) (hl : cs.length = cap * 7) (hm : m + 1 ≤ cap) (hM : cap ≤ 9223372036854775807) (hi : i ≤ m) :
 Calls Tryz.prog 88 #[.slice (some ⟨blk, 0, none⟩) (m + 1) cap, .int .i64 i, .int .i64 ((i : Int) + 1)] w fun e w' => e = .returned (.slice (some ⟨blk, 0, none⟩) m cap) ∧ w' = (w.drew.setCells blk (i * 7) ((cs.take ((m + 1) * 7)).drop ((i + 1) * 7))).setCells blk (m * 7) abQ := by
 obtain ⟨i0, hi0, hz0, hz1, hz2⟩ := info_parts awQ
 obtain ⟨news, hnews⟩ : ∃ news, news = (cs.take ((m + 1) * 7)).drop ((i + 1) * 7) := ⟨_, rfl⟩
 have hlen : news.length = (m - i) * 7 := by rw [hnews]; simp; omega
 have hget : ∀ t u, news[t]? = some u → cs[(i + 1) * 7 + t]? = some u := by
  intro t u hu
  rw [hnews, List.getElem?_drop, List.getElem?_take] at hu
  split at hu
  ·exact hu
  ·cases hu
 obtain ⟨A, hA, hsrc⟩ : ∃ A : Addr, (if cap = i + 1 then some (⟨blk, 0, none⟩ : Addr) else some ⟨blk, (i + 1) * 7, none⟩) = some A ∧ Hid (∀ t u, news[t]? = some u → w.drew.cell? (A.add t) = some u) := by
  by_cases h : cap = i + 1
  ·refine ⟨⟨blk, 0, none⟩, by simp [h], fun t u hu => ?_⟩
   have h0 : news.length = 0 := by rw [hlen]; omega
   rw [List.length_eq_zero_iff.1 h0] at hu
   simp at hu
  ·refine ⟨⟨blk, (i + 1) * 7, none⟩, by simp [h], fun t u hu => ?_⟩
   rw [Addr.add_lit]
   exact hc _ u (hget t u hu)
 have s1 : Hid (news.length = (m - i) * 7) := hlen
 have s2 : Hid (∀ u ∈ news, u.oneCell' = true) := by
  intro u hu
  obtain ⟨t, ht⟩ := List.getElem?_of_mem hu
  have hlt := (List.getElem?_eq_some_iff.1 ht).1
  exact h1 _ u (by omega) (hget t u ht)
 have s3 : Hid (∀ t, t < news.length → (w.drew.cell? ⟨blk, 0 + i * 7 + t, none⟩).isSome = true ∧ w.drew.frozen? ⟨blk, 0 + i * 7 + t, none⟩ = false) := by
  intro t ht
  rw [hlen] at ht
  rw [Nat.zero_add]
  have hlt : i * 7 + t < cs.length := by omega
  exact ⟨by show (w.cell? _).isSome = true; rw [hc (i * 7 + t) _ (List.getElem?_eq_getElem hlt)]; rfl, hf _ hlt⟩
 obtain ⟨W1, hW1⟩ : ∃ W1, W1 = w.drew.setCells blk (0 + i * 7) news := ⟨_, rfl⟩
 have hcell : ∀ t, t < 7 → (W1.cell? ⟨blk, m * 7 + t, none⟩).isSome = true := by
  intro t ht
  have hlt : m * 7 + t < cs.length := by omega
  have h0 : (w.drew.cell? ⟨blk, m * 7 + t, none⟩).isSome = true := by show (w.cell? _).isSome = true; rw [hc _ _ (List.getElem?_eq_getElem hlt)]; rfl
  rw [hW1, World.cell?_setCells_out blk news (0 + i * 7) w.drew _ (fun _ _ => .inr (by rw [hlen]; show _ ≤ m * 7 + t; omega))]
  exact h0
 have hfro : ∀ t, t < 7 → W1.frozen? ⟨blk, m * 7 + t, none⟩ = false := by
  intro t ht
  rw [hW1, World.frozen?_setCells]
  exact hf _ (by omega)
 have hcl : ∀ ty c, (Builtin.clear_ #[31] ty #[.slice (some ⟨blk, m * 7, none⟩) 1 c]).run Tryz.prog W1 = .ok (.tuple #[]) (W1.setCells blk (m * 7) abQ) := by
  intro ty c
  have := Rq (P := Tryz.prog) W1 31 91 ty z91 7 Tryz.underlying31 Tryz.zeroValue91 blk (m * 7) 1 c (by omega) (by rw [awj]; rfl) (by
   rw [awj]
   intro u hu
   simp only [abQ, List.mem_cons, List.not_mem_nil, or_false] at hu
   rcases hu with rfl | rfl | rfl | rfl | rfl | rfl | rfl <;> rfl) (by simpa using hcell) (by simpa using hfro)
  rw [awj] at this
  exact this
 have hW : Hid (W1 = w.drew.setCells blk (0 + i * 7) news) := hW1
 have hx : W1 = w.drew.setCells blk (i * 7) ((cs.take ((m + 1) * 7)).drop ((i + 1) * 7)) := by rw [hW1, Nat.zero_add, hnews]
 have X : Aside (W1 = w.drew.setCells blk (i * 7) ((cs.take ((m + 1) * 7)).drop ((i + 1) * 7))) := hx
 have hic : i ≤ cap := by omega
 have hp0 : (0 : Int) ≤ (i : Int) + 1 := by omega
 have hp1 : (i : Int) + 1 ≤ ((m + 1 : Nat) : Int) := by omega
 have hp2 : ((i : Int) + 1).toNat = i + 1 := by omega
 have hjc : i + 1 ≤ cap := by omega
 clear hx hW1 hcell hfro hc hf h1 hget hnews hlen
 go_enter Tryz.func88, Tryz.ntmps88
 go_wp2_with fail
 ·go_region_law (refine step_append_room rfl (.tmp 22) (.tmp 25) 31 rfl 91 i0 7 Tryz.underlying31 hi0 hz1 blk 0 i cap (by simp [Act.eval, Act.put]) A (m - i) (cap - (i + 1)) news (by simp [Act.eval, Act.put]) s1.out hsrc.out s2.out (by omega) s3.out ?_; rw [← hW.out])
  go_wp2
  go_ret
  exact ⟨rfl, by rw [X.out]⟩
theorem yh (P : Program) {w : World} {g off : Nat} {cur : List Value} {T : TypeId} (hg : w.heap[g]? = some (.cells cur.toArray T (0, 0))) {vs : List Value} (hfit : off + vs.length ≤ cur.length) (h1 : ∀ v ∈ vs, v.oneCell' = true) :
 (w.setCells g off vs).heap[g]? = some (.cells (cur.take off ++ (vs ++ cur.drop (off + vs.length))).toArray T (0, 0)) ∧ w.grownBy (w.setCells g off vs) (some g) := by
 obtain ⟨w', hr, h2, h3, h4, h5, h6, h7⟩ := oq P hg hfit h1
 have hrun := run_storeCells_cells (P := P) g off vs 0 w (fun j hj => by
  rw [Nat.add_zero]
  simp only [World.cell?, hg, Option.isSome_none, Bool.false_eq_true, if_false, List.getElem?_toArray]
  rw [List.getElem?_eq_getElem (by omega)]; rfl) (fun j hj => by simp [World.frozen?, hg]) h1
 rw [Nat.add_zero] at hrun
 have e : w' = w.setCells g off vs := by
  have := hr.symm.trans hrun
  injection this
 rw [← e]
 exact ⟨h2, h5, h6, h7, by omega, fun c hc hne => h4 c fun e => hne (by rw [e])⟩
theorem av9 : ∀ u ∈ abQ, u.oneCell' = true := by
 intro u hu
 simp only [abQ, List.mem_cons, List.not_mem_nil, or_false] at hu
 rcases hu with rfl | rfl | rfl | rfl | rfl | rfl | rfl <;> rfl
theorem atA : XV Tryz.prog 88 (.delR 91 7) := by
 refine ⟨enters_of Tryz.func88 (by kernel_rfl) rfl, fun blk cap m i cur w hg hsz hi hm hM h1 => ?_⟩
 have hcs : cur.toList.length = cap * 7 := by simpa using hsz
 have hM' : cap ≤ 9223372036854775807 := hM
 refine (aqC blk cap m i cur.toList w (fun t u hu => ?_) (fun t ht => ?_) h1 hcs hm hM' hi).mono ?_
 ·simp only [World.cell?, hg, Option.isSome_none, Bool.false_eq_true, if_false]
  rw [← Array.getElem?_toList]; exact hu
 ·simp [World.frozen?, hg]
 ·rintro r w' ⟨rfl, rfl⟩
  obtain ⟨news, hnews⟩ : ∃ news, news = (cur.toList.take ((m + 1) * 7)).drop ((i + 1) * 7) := ⟨_, rfl⟩
  have hlen : news.length = (m - i) * 7 := by rw [hnews]; simp; omega
  have hone : ∀ u ∈ news, u.oneCell' = true := by
   intro u hu
   obtain ⟨t, ht⟩ := List.getElem?_of_mem hu
   have hlt := (List.getElem?_eq_some_iff.1 ht).1
   rw [hnews, List.getElem?_drop, List.getElem?_take] at ht
   split at ht
   ·exact h1 _ u (by omega) ht
   ·cases ht
  rw [← hnews]
  obtain ⟨a1, a2⟩ := yh Tryz.prog (w := w.drew) (g := blk) (off := i * 7) (cur := cur.toList) (T := 91) (by rw [Array.toArray_toList]; exact hg) (vs := news) (by omega) hone
  have hl2 : (cur.toList.take (i * 7) ++ (news ++ cur.toList.drop (i * 7 + news.length))).length = cap * 7 := by simp; omega
  obtain ⟨b1, b2⟩ := yh Tryz.prog (g := blk) (off := m * 7) (T := 91) a1 (vs := abQ) (by rw [hl2]; show m * 7 + 7 ≤ _; omega) av9
  refine ⟨rfl, _, b1, ?_, ?_, ?_⟩
  ·rw [List.size_toArray]
   have : abQ.length = 7 := rfl
   simp only [List.length_append, List.length_take, List.length_drop, this] at hl2 ⊢
   omega
  ·have e1 : (cur.toList.take (i * 7) ++ (news ++ cur.toList.drop (i * 7 + news.length))).take (m * 7) = cur.toList.take (i * 7) ++ news := by
    rw [← List.append_assoc]
    exact List.take_left' (by simp; omega)
   rw [show (List.toArray _).toList = _ from rfl, e1]
   exact List.take_left' (by simp; omega)
  ·exact ⟨b2.os.trans a2.os, b2.tape.trans a2.tape, b2.output.trans a2.output, Nat.le_trans a2.size b2.size, fun c hc hne => (b2.block c (Nat.lt_of_lt_of_le hc a2.size) hne).trans (a2.block c hc hne)⟩
end Go.MC
namespace Go.MC
open Go.Proofs Go.Shelf
def aoS : List (Nat × UQ) := [(132, .sortS), (133, .compS), (88, .delR 91 7)]
theorem amG : XV Tryz.prog 132 .sortS := ⟨enters_of Tryz.func132 (by kernel_rfl) rfl, fun blk off cap ss w h1 h2 h3 => Tryz.sort_Strings blk off cap ss w h1 h2 h3, fun p cap w => Tryz.sort_Strings_none p cap w⟩
theorem anx : XV Tryz.prog 133 .compS := ⟨enters_of Tryz.func133 (by kernel_rfl) rfl, fun blk off cap zs w h1 h2 h3 => Tryz.slices_Compact_string blk off cap zs w h1 h2 h3, fun a cap w => Tryz.slices_Compact_string_empty a cap w⟩
theorem ahv : Y8 Tryz.prog aoS := And.intro amG (And.intro anx (And.intro atA trivial))
def aun : Inl := atW aoS
theorem af4 : GL Tryz.prog aun := ahc (YU ahv)
end Go.MC

/- The law FnTop returns true on every input: what the program tells is what the document tells, by the contracts of all functions that it reaches and a proof in plain Lean. There is no condition. -/
import Derived.Test.YtaihjhaabnfenaaGreatmFnTop5
import Derived.Test.YtaihjhaabnfenaaGreatRows
import Derived.Test.YtaihjhaabnfenaaGreatmFnTop2
import Derived.Test.YtaihjhaabnfenaaGreatmFnTop4
import Derived.WalkKit
import Derived.ProofKit
import Derived.OpenShut
import Derived.ShutString
import Derived.ChangeOld
import Derived.Below
import Derived.SizedLaws
import Derived.Carry
set_option linter.unusedVariables false
set_option linter.unusedSimpArgs false
namespace Go.MC
open Go.MC.F
abbrev Real := Txt × Int
def realOf (l : List Real) (n : Txt) : Int := ((l.find? fun t => t.1 == n).map (·.2)).getD 0
theorem wReal {N : Nat} (hN : lim < N) {l : List Real} (hl : l.length ≤ 1000) (n : Txt) : f_104 N l n = some (realOf l n) := by
  have hlim := lim_eq
  unfold f_104 f_104b realOf
  refine lp_find l _ (fun t : Real => t.1 == n) (·.2) 0 (fun g i hi => ?_) (fun g => ?_) N (by omega)
  · unfold f_104_0r
    simp only [dlt hi, dge, gAt hi, cond_true, wrS (show i ≤ 1000000000000000000 by omega)]
  · unfold f_104_0r
    rw [dnlt]; rfl
theorem wBounds {N : Nat} (hN : lim < N) {b : Book} {l : List Real} (hb : b.2.1.length ≤ 1000) (hl : l.length ≤ 1000) (h : ∀ s ∈ b.2.1, s.2.2.1 ≤ realOf l s.1 ∧ realOf l s.1 ≤ s.2.2.2.1) : f_68 N b l = some true := by
  have hlim := lim_eq
  refine gTrue ?_
  refine lp_post b.2.1.length (fun (g : Int → Option Bool) i (_ : Unit) => g i) (z := fun _ => none) (rd := fun next => f_68_0r N b l next) (fun _ _ => True) (fun g i st hi _ on => ?_) (fun g st _ => ?_) (N := N) (st := ()) (by omega) trivial
  · have := h _ (List.getElem_mem hi)
    unfold f_68_0r
    simp only [wrS (show i ≤ 1000000000000000000 by omega), gAt hi, ob_eq (wReal hN hl _)]
    exact gIf (by omega) (gIf (by omega) (gIf (by omega) (gIf (by omega) (gIf (by omega) (gNot (by omega) (gIf (by omega) (gIf (by omega) (gNot (by omega) (on () trivial)))))))))
  · unfold f_68_0r
    exact gNot (by omega) (.some rfl)
def flowU (n : Int) (u : Use) (t : Real) : Real := bif u.2.1 == 1 then (t.1, IntKind.i64.wrap (t.2 - n)) else bif u.2.1 == 2 then (t.1, IntKind.i64.wrap (t.2 + n)) else t
theorem flowU_name (n : Int) (u : Use) (t : Real) : (flowU n u t).1 = t.1 := by
  unfold flowU
  cases u.2.1 == 1 <;> cases u.2.1 == 2 <;> rfl
theorem turn_snoc {β : Type} {f : Use → Txt × β → Txt × β} (us : List Use) (u : Use) (s : Txt × β) : turn f (us ++ [u]) s = bif (turn f us s).1 == u.1 then f u (turn f us s) else turn f us s := by
  unfold turn
  rw [List.foldl_append]; rfl
theorem wFlow {N : Nat} (hN : lim < N) {l : List Real} (hl : l.length ≤ 1000) {w : Want} (hw : w.2.2.2.1.length ≤ 1000) (n : Int) : f_102 N l w n = some (l.map (turn (flowU n) w.2.2.2.1)) := by
  have hlim := lim_eq
  suffices H : Gives (f_102 N l w n) (· = l.map (turn (flowU n) w.2.2.2.1)) by obtain ⟨r, e, rfl⟩ := H; exact e
  unfold f_102 f_102b
  refine gIf (by omega) ?_
  rw [List.nil_append]
  refine lp_post l.length (fun (g : Int → List Real → Option (List Real)) i (z : List Real) => g i z) (z := fun _ _ => none) (rd := fun next => f_102_0r N (f_102_2 N next w n) w n next) (fun i z => z = (l.take i).map (turn (flowU n) w.2.2.2.1) ++ l.drop i) (fun g i z hi hv on => ?_) (fun g z hv => ?_) (N := N) (st := l) (by omega) (by simp)
  · have hlz : z.length = l.length := by rw [hv]; simp; omega
    have hiz : i < z.length := by omega
    have hzi : z[i] = l[i] := by
      have hlt : ((l.take i).map (turn (flowU n) w.2.2.2.1)).length = i := by rw [List.length_map, List.length_take]; omega
      simp only [hv]
      rw [List.getElem_append_right (by omega)]
      simp only [hlt, Nat.sub_self, List.getElem_drop]
      rfl
    unfold f_102_0r
    refine gIf (by omega) ?_
    refine lp_post w.2.2.2.1.length (fun (g : Int → List Real → Option (List Real)) k (y : List Real) => g k y) (z := fun _ _ => none) (rd := fun next => f_102_2r N g w n i next) (fun k y => y = z.set i (turn (flowU n) (w.2.2.2.1.take k) z[i])) (fun g2 k y hk hy on2 => ?_) (fun g2 y hy => ?_) (N := N) (st := z) (by omega) (by simp [turn])
    · have hly : y.length = z.length := by rw [hy, List.length_set]
      have hyi : y.getD i ([], Int.ofNat 0) = turn (flowU n) (w.2.2.2.1.take k) z[i] := by
        rw [getD_at (by omega)]; simp only [hy, List.getElem_set_self]
      have hys : ∀ x, y.set i x = z.set i x := fun x => by rw [hy, List.set_set]
      have hnext : turn (flowU n) (w.2.2.2.1.take (k + 1)) z[i] = bif w.2.2.2.1[k].1 == (turn (flowU n) (w.2.2.2.1.take k) z[i]).1 then flowU n w.2.2.2.1[k] (turn (flowU n) (w.2.2.2.1.take k) z[i]) else turn (flowU n) (w.2.2.2.1.take k) z[i] := by
        rw [List.take_add_one, List.getElem?_eq_getElem hk, Option.toList_some, turn_snoc, Bool.beq_comm]
      unfold f_102_2r
      simp only [wrS (show k ≤ 1000000000000000000 by omega), gAt hk, gAt', sAt, hyi, hys]
      refine gIf (by omega) (gIf (by omega) (gIf (by omega) (gIf (by omega) (gIf (by omega) (gBy (fun hn => on2 y ?_) fun hn => gIf (by omega) (gIf (by omega) (gBy (fun h1 => gIf (by omega) (gIf (by omega) (gIf (by omega) (gIf (by omega) (gIf (by omega) (gIf (by omega) (gBy (fun h2 => ?_) fun _ => on2 _ ?_))))))) fun h1 => gIf (by omega) (gIf (by omega) (gBy (fun h2 => gIf (by omega) (gIf (by omega) (gIf (by omega) (gIf (by omega) (on2 _ ?_))))) fun h2 => on2 y ?_)))))))))
      · rw [hnext, show (w.2.2.2.1[k].1 == (turn (flowU n) (w.2.2.2.1.take k) z[i]).1) = false by simpa using hn, cond_false]; exact hy
      · rw [beq_iff_eq.1 h1] at h2; cases h2
      · rw [hnext, show (w.2.2.2.1[k].1 == (turn (flowU n) (w.2.2.2.1.take k) z[i]).1) = true by simpa using hn, cond_true]
        unfold flowU
        rw [h1]; rfl
      · rw [hnext, show (w.2.2.2.1[k].1 == (turn (flowU n) (w.2.2.2.1.take k) z[i]).1) = true by simpa using hn, cond_true]
        unfold flowU
        rw [h1, h2]; rfl
      · rw [hnext, show (w.2.2.2.1[k].1 == (turn (flowU n) (w.2.2.2.1.take k) z[i]).1) = true by simpa using hn, cond_true, show flowU n w.2.2.2.1[k] (turn (flowU n) (w.2.2.2.1.take k) z[i]) = turn (flowU n) (w.2.2.2.1.take k) z[i] from by unfold flowU; rw [h1, h2]; rfl]; exact hy
    · unfold f_102_2r
      rw [wrS (show i ≤ 1000000000000000000 by omega)]
      refine gNot (by omega) (on y ?_)
      have hlt : ((l.take i).map (turn (flowU n) w.2.2.2.1)).length = i := by rw [List.length_map, List.length_take]; omega
      rw [hy, List.take_length, hzi, hv, List.set_append, if_neg (by omega), hlt, Nat.sub_self, List.drop_eq_getElem_cons hi, List.set_cons_zero, List.take_add_one, List.getElem?_eq_getElem hi]
      simp only [Option.toList_some, List.map_append, List.map_cons, List.map_nil, List.append_assoc, List.singleton_append]
  · unfold f_102_0r
    refine gNot (by rw [hv]; simp) (.some ?_)
    rw [hv]; simp
theorem realOf_at {l : List Real} {n : Txt} (h : n ∈ l.map (·.1)) : ∃ t, t.1 = n ∧ t.2 = realOf l n ∧ ∀ F : Real → Real, (∀ t, (F t).1 = t.1) → realOf (l.map F) n = (F t).2 := by
  obtain ⟨x, hx, e⟩ := List.mem_map.1 h
  cases hf : l.find? fun t => t.1 == n with
  | none =>
    have := List.find?_eq_none.1 hf x hx
    exact absurd (by simpa using e) this
  | some t =>
    refine ⟨t, by simpa using List.find?_some hf, by unfold realOf; rw [hf]; rfl, fun F hF => ?_⟩
    unfold realOf
    rw [List.find?_map, show ((fun t : Real => t.1 == n) ∘ F) = fun t => t.1 == n from funext fun t => by simp [hF], hf]
    rfl
structure RealI (b : Book) (l : List Real) : Prop where
  names : l.map (·.1) = b.2.1.map (·.1)
  low : ∀ s ∈ b.2.1, s.2.2.1 ≤ realOf l s.1
  high : ∀ s ∈ b.2.1, realOf l s.1 ≤ s.2.2.2.1
  from' : ∀ s ∈ b.2.1, ∀ p ∈ b.2.2.2.1, ∀ u ∈ p.1.2.2.2.1, u.1 = s.1 → u.2.1 = 1 → s.2.2.1 + u.2.2 ≤ realOf l s.1
  to' : ∀ s ∈ b.2.1, ∀ p ∈ b.2.2.2.1, ∀ u ∈ p.1.2.2.2.1, u.1 = s.1 → u.2.1 = 2 → realOf l s.1 + u.2.2 ≤ s.2.2.2.1
theorem RealI.len {b : Book} {l : List Real} (h : RealI b l) : l.length = b.2.1.length := by
  have := congrArg List.length h.names
  simpa using this
theorem RealI.wants {b c : Book} {l : List Real} (h : RealI b l) (hs : c.2.1 = b.2.1) (hp : c.2.2.2.1.map (·.1) = b.2.2.2.1.map (·.1)) : RealI c l := by
  have key : ∀ p ∈ c.2.2.2.1, ∃ q ∈ b.2.2.2.1, q.1 = p.1 := fun p hm => by
    have : p.1 ∈ b.2.2.2.1.map (·.1) := by rw [← hp]; exact List.mem_map.2 ⟨p, hm, rfl⟩
    obtain ⟨q, hq, e⟩ := List.mem_map.1 this
    exact ⟨q, hq, e⟩
  refine ⟨by rw [hs]; exact h.names, by rw [hs]; exact h.low, by rw [hs]; exact h.high, ?_, ?_⟩
  · rw [hs]
    intro s hm p hpm u hu
    obtain ⟨q, hq, e⟩ := key p hpm
    exact h.from' s hm q hq u (by rw [e]; exact hu)
  · rw [hs]
    intro s hm p hpm u hu
    obtain ⟨q, hq, e⟩ := key p hpm
    exact h.to' s hm q hq u (by rw [e]; exact hu)
theorem stop_real {b : Book} {l : List Real} (h : RealI b l) (hb : bookOk b = true) (n : Int) : RealI (stopB b n).1 l := by
  unfold stopB
  rw [hb, cond_true]
  cases decide (partAt b n < 0) with
  | true => exact h
  | false => exact h.wants rfl (stopped_map b n)
theorem first_ne {f : Use → Int} {l : List Use} {k : Int} (hk : k ≠ 0) (h : ∀ u, f u ≠ k) : first f l ≠ k := by
  unfold first
  cases l.find? fun u => f u != 0 with
  | none => exact fun e => hk e.symm
  | some u => exact h u
theorem code_not1 {b : Book} (hb : bookOk b = true) (w : Want) : codeB b w ≠ 1 := by
  have hst : stuffs b w ≠ 1 := by
    unfold stuffs
    cases clash b w.2.2.1 w.2.2.1 with
    | true => exact (by decide : (8 : Int) ≠ 1)
    | false =>
      cases w.2.1 == 1 with
      | false => exact (by decide : (0 : Int) ≠ 1)
      | true =>
        refine first_ne (by decide) fun u => ?_
        unfold stuffU
        cases u.2.1 == 2 <;> cases clash b w.2.2.1 (spotAt b u.1).2.2.2.2 <;> cases decide ((unionN (spotAt b u.1).2.2.2.2 w.2.2.1 : Int) > 8) <;> cases (spotAt b u.1).2.2.2.2.all (fun x => w.2.2.1.contains x) <;> decide
  have ham : amounts b w ≠ 1 := by
    refine first_ne (by decide) fun u => ?_
    unfold amountU
    cases u.2.1 == 1 && decide ((spotAt b u.1).2.2.1 < u.2.2) <;> cases u.2.1 == 2 && decide (IntKind.i64.wrap ((spotAt b u.1).2.2.2.1 + u.2.2) > (spotAt b u.1).2.1) <;> cases w.2.1 == 2 && decide ((spotAt b u.1).2.2.2.1 > 0) <;> decide
  unfold codeB
  rw [hb]
  cases wantOk w with
  | false => exact (by decide : (2 : Int) ≠ 1)
  | true =>
  cases knowsB b w with
  | false => exact (by decide : (2 : Int) ≠ 1)
  | true =>
  cases decide (partAt b w.1 ≥ 0) with
  | true =>
    cases sameW (partG b w.1).1 w with
    | true => exact (by decide : (0 : Int) ≠ 1)
    | false => exact (by decide : (3 : Int) ≠ 1)
  | false =>
  cases decide (w.1 ≤ b.2.2.2.2) with
  | true => exact (by decide : (4 : Int) ≠ 1)
  | false =>
  cases decide ((b.2.2.2.1.length : Int) ≥ 6) with
  | true => exact (by decide : (5 : Int) ≠ 1)
  | false =>
  cases b.2.2.2.1.any (fun p => share p.1 w) with
  | true => exact (by decide : (6 : Int) ≠ 1)
  | false =>
  cases b.2.2.2.1.any (fun p => cross p.1 w) with
  | true => exact (by decide : (7 : Int) ≠ 1)
  | false =>
  cases stuffs b w != 0 with
  | true => exact hst
  | false => exact ham
theorem grant_real {b : Book} {l : List Real} (h : RealI b l) (hb : bookOk b = true) (w : Want) : RealI (grantB b w).1 l := by
  obtain ⟨f1, f2, f3, f4, f5⟩ := code_facts b w
  unfold grantB
  cases h1 : codeB b w == 1 with
  | true =>
    exact absurd (beq_iff_eq.1 h1) (code_not1 hb w)
  | false =>
    simp only [cond_false]
    cases inB (codeB b w) 2 4 with
    | true => exact h
    | false =>
      simp only [cond_false]
      by_cases hp : partAt b w.1 ≥ 0
      · rw [decide_eq_true hp]; exact h
      · rw [decide_eq_false hp]
        cases h0 : codeB b w == 0 with
        | false => exact h.wants rfl rfl
        | true =>
          have F := code_free (beq_iff_eq.1 h0) (by omega)
          have o := bookOk_iff.1 hb
          have ex : (putB b w).2.1 = _ := put_spots o F.kn
          show RealI (putB b w) l
          have hua := uses_asc F.wok
          have hn : (putB b w).2.1.map (·.1) = b.2.1.map (·.1) := by
            rw [ex, List.map_map]; exact List.map_congr_left fun s _ => turn_name (putU_name w) _ s
          have at_ : ∀ t ∈ (putB b w).2.1, ∃ s ∈ b.2.1, t.1 = s.1 ∧ ((t = s ∧ ∀ u ∈ w.2.2.2.1, u.1 ≠ s.1) ∨ ∃ u ∈ w.2.2.2.1, u.1 = s.1 ∧ t = putU w u s) := by
            intro t ht
            rw [ex] at ht
            obtain ⟨s, hs, rfl⟩ := List.mem_map.1 ht
            refine ⟨s, hs, turn_name (putU_name w) _ s, ?_⟩
            by_cases hc : ∃ u ∈ w.2.2.2.1, u.1 = s.1
            · obtain ⟨u, hu, eu⟩ := hc
              exact .inr ⟨u, hu, eu, turn_in (putU_name w) hua hu eu⟩
            · exact .inl ⟨turn_not fun u hu eu => hc ⟨u, hu, eu⟩, fun u hu eu => hc ⟨u, hu, eu⟩⟩
          have num : ∀ s ∈ b.2.1, ∀ u ∈ w.2.2.2.1, u.1 = s.1 → (u.2.1 = 3 ∧ (putU w u s).2.2.1 = s.2.2.1 ∧ (putU w u s).2.2.2.1 = s.2.2.2.1 ∧ u.2.2 = 0) ∨ (u.2.1 = 1 ∧ (putU w u s).2.2.1 = s.2.2.1 - u.2.2 ∧ (putU w u s).2.2.2.1 = s.2.2.2.1 ∧ 1 ≤ u.2.2) ∨ (u.2.1 = 2 ∧ (putU w u s).2.2.1 = s.2.2.1 ∧ (putU w u s).2.2.2.1 = s.2.2.2.1 + u.2.2 ∧ 1 ≤ u.2.2) := by
            intro s hs u hu eu
            obtain ⟨_, c2, c3, _, _⟩ := spotOk_iff.1 (o.so s hs)
            unfold putU
            rcases use_facts F.wok hu with ⟨e1, e2⟩ | ⟨e1, _, e3, e4⟩
            · exact .inl ⟨e1, by rw [e1]; rfl, by rw [e1]; rfl, e2⟩
            · rcases e1 with e | e
              · refine .inr (.inl ⟨e, ?_, by rw [e]; rfl, e3⟩)
                rw [e]; exact wr (by omega) (by omega)
              · refine .inr (.inr ⟨e, by rw [e]; rfl, ?_, e3⟩)
                rw [e]; exact wr (by omega) (by omega)
          have uq : ∀ u ∈ w.2.2.2.1, ∀ v ∈ w.2.2.2.1, u.1 = v.1 → u = v := fun u hu v hv e => by
            obtain ⟨i, hi, ei⟩ := List.mem_iff_getElem.1 hu
            obtain ⟨j, hj, ej⟩ := List.mem_iff_getElem.1 hv
            have := asc_inj hua hi hj (by rw [ei, ej, e])
            subst this
            rw [← ei, ← ej]
          have old : ∀ p ∈ b.2.2.2.1, ∀ u ∈ p.1.2.2.2.1, ∀ v ∈ w.2.2.2.1, v.1 ≠ u.1 := fun p hp u hu => share_not (by rw [share_comm]; exact F.sh p hp) hu
          refine ⟨h.names.trans hn.symm, ?_, ?_, ?_, ?_⟩
          · intro t ht
            obtain ⟨s, hs, en, hc | ⟨u, hu, eu, et⟩⟩ := at_ t ht
            · rw [hc.1]; exact h.low s hs
            · have hl := h.low s hs
              rw [en, et]
              rcases num s hs u hu eu with ⟨_, a, _, _⟩ | ⟨_, a, _, _⟩ | ⟨_, a, _, _⟩ <;> omega
          · intro t ht
            obtain ⟨s, hs, en, hc | ⟨u, hu, eu, et⟩⟩ := at_ t ht
            · rw [hc.1]; exact h.high s hs
            · have hl := h.high s hs
              rw [en, et]
              rcases num s hs u hu eu with ⟨_, _, a, _⟩ | ⟨_, _, a, _⟩ | ⟨_, _, a, _⟩ <;> omega
          · intro t ht p hp v hv ev er
            obtain ⟨s, hs, en, hc⟩ := at_ t ht
            have hl := h.low s hs
            rcases List.mem_append.1 (show p ∈ b.2.2.2.1 ++ [(w, false)] from hp) with hp | hp
            · rcases hc with ⟨e, _⟩ | ⟨u, hu, eu, et⟩
              · subst e; exact h.from' _ hs p hp v hv ev er
              · exact absurd (by rw [eu, ev, en]) (old p hp v hv u hu)
            · obtain rfl := List.mem_singleton.1 hp
              rcases hc with ⟨e, hno⟩ | ⟨u, hu, eu, et⟩
              · exact absurd (by rw [ev, en]) (hno v hv)
              · obtain rfl := uq u hu v hv (by rw [eu, ev, en])
                rw [en, et]
                rcases num s hs u hu eu with ⟨a, _, _, _⟩ | ⟨_, a, _, _⟩ | ⟨a, _, _, _⟩ <;> omega
          · intro t ht p hp v hv ev er
            obtain ⟨s, hs, en, hc⟩ := at_ t ht
            have hl := h.high s hs
            rcases List.mem_append.1 (show p ∈ b.2.2.2.1 ++ [(w, false)] from hp) with hp | hp
            · rcases hc with ⟨e, _⟩ | ⟨u, hu, eu, et⟩
              · subst e; exact h.to' _ hs p hp v hv ev er
              · exact absurd (by rw [eu, ev, en]) (old p hp v hv u hu)
            · obtain rfl := List.mem_singleton.1 hp
              rcases hc with ⟨e, hno⟩ | ⟨u, hu, eu, et⟩
              · exact absurd (by rw [ev, en]) (hno v hv)
              · obtain rfl := uq u hu v hv (by rw [eu, ev, en])
                rw [en, et]
                rcases num s hs u hu eu with ⟨a, _, _, _⟩ | ⟨a, _, _, _⟩ | ⟨_, _, a, _⟩ <;> omega
theorem over_real {b : Book} {l : List Real} (h : RealI b l) (hb : bookOk b = true) {n moved : Int} {done : Bool} (hp : 0 ≤ partAt b n) (hm : movedOk (partX b n).1 moved = true) (h0 : moved ≤ 1002) :
    (∀ k, 0 ≤ k → k ≤ moved → ∀ s ∈ b.2.1, s.2.2.1 ≤ realOf (l.map (turn (flowU k) (partX b n).1.2.2.2.1)) s.1 ∧ realOf (l.map (turn (flowU k) (partX b n).1.2.2.2.1)) s.1 ≤ s.2.2.2.1) ∧ RealI (overBk b n moved done) (l.map (turn (flowU moved) (partX b n).1.2.2.2.1)) := by
  have o := bookOk_iff.1 hb
  have hx := partX_mem hp
  have hw := o.po _ (List.mem_map.2 ⟨_, hx, rfl⟩)
  have hua := uses_asc hw.2.1
  have hlt := partAt_lt hp
  have hk : (partAt b n).toNat < b.2.2.2.1.length := by omega
  have hxk : partX b n = b.2.2.2.1[(partAt b n).toNat] := getD_at hk _
  have ex : (overBk b n moved done).2.1 = _ := over_spots o hw moved done
  have hm0 : 0 ≤ moved := by
    unfold movedOk at hm
    simp only [Bool.and_eq_true, Bool.not_eq_true', decide_eq_false_iff_not] at hm
    omega
  have hmu : ∀ u ∈ (partX b n).1.2.2.2.1, u.2.1 ≠ 3 → moved ≤ u.2.2 := by
    intro u hu h3
    unfold movedOk at hm
    simp only [Bool.and_eq_true] at hm
    have := List.all_eq_true.1 hm.2 u hu
    unfold movedU at this
    rw [show (u.2.1 != 3) = true by simpa using h3] at this
    simp only [Bool.true_and, Bool.not_eq_true', decide_eq_false_iff_not] at this
    omega
  have isn : ∀ s ∈ b.2.1, s.1 ∈ l.map (·.1) := fun s hs => by rw [h.names]; exact List.mem_map.2 ⟨s, hs, rfl⟩
  -- what flows at a place
  have fl : ∀ k, 0 ≤ k → k ≤ moved → ∀ s ∈ b.2.1, (realOf (l.map (turn (flowU k) (partX b n).1.2.2.2.1)) s.1 = realOf l s.1 ∧ (∀ u ∈ (partX b n).1.2.2.2.1, u.1 = s.1 → u.2.1 = 3)) ∨
      ∃ u ∈ (partX b n).1.2.2.2.1, u.1 = s.1 ∧ moved ≤ u.2.2 ∧ u.2.2 ≤ 1000 ∧ ((u.2.1 = 1 ∧ realOf (l.map (turn (flowU k) (partX b n).1.2.2.2.1)) s.1 = realOf l s.1 - k ∧ s.2.2.1 + u.2.2 ≤ realOf l s.1) ∨ (u.2.1 = 2 ∧ realOf (l.map (turn (flowU k) (partX b n).1.2.2.2.1)) s.1 = realOf l s.1 + k ∧ realOf l s.1 + u.2.2 ≤ s.2.2.2.1)) := by
    intro k hk0 hk1 s hs
    obtain ⟨_, c2, c3, _, _⟩ := spotOk_iff.1 (o.so s hs)
    have hlo := h.low s hs
    have hhi := h.high s hs
    obtain ⟨t, t1, t2, t3⟩ := realOf_at (isn s hs)
    have e := t3 (turn (flowU k) (partX b n).1.2.2.2.1) fun t => turn_name (flowU_name k) _ t
    by_cases hc : ∃ u ∈ (partX b n).1.2.2.2.1, u.1 = s.1
    · obtain ⟨u, hu, eu⟩ := hc
      rw [turn_in (flowU_name k) hua hu (by rw [t1]; exact eu)] at e
      rcases use_facts hw.2.1 hu with ⟨e1, e2⟩ | ⟨e1, _, e3, e4⟩
      · refine .inl ⟨?_, fun v hv ev => ?_⟩
        · rw [e]; unfold flowU; rw [e1]; exact t2
        · obtain ⟨i, hi, ei⟩ := List.mem_iff_getElem.1 hv
          obtain ⟨j, hj, ej⟩ := List.mem_iff_getElem.1 hu
          have := asc_inj hua hi hj (by rw [ei, ej, ev, eu])
          subst this
          rw [← ei, ej]; exact e1
      · have hmv := hmu u hu (by omega)
        refine .inr ⟨u, hu, eu, hmv, e4, ?_⟩
        rcases e1 with e1 | e1
        · refine .inl ⟨e1, ?_, h.from' s hs _ hx u hu eu e1⟩
          rw [e]; unfold flowU; rw [e1]
          show IntKind.i64.wrap (t.2 - k) = _
          rw [t2, wr (by omega) (by omega)]
        · refine .inr ⟨e1, ?_, h.to' s hs _ hx u hu eu e1⟩
          rw [e]; unfold flowU; rw [e1]
          show IntKind.i64.wrap (t.2 + k) = _
          rw [t2, wr (by omega) (by omega)]
    · refine .inl ⟨?_, fun u hu eu => absurd ⟨u, hu, eu⟩ hc⟩
      rw [e, turn_not fun u hu eu => hc ⟨u, hu, by rw [eu, t1]⟩, t2]
  refine ⟨fun k hk0 hk1 s hs => ?_, ?_⟩
  · have hlo := h.low s hs
    have hhi := h.high s hs
    rcases fl k hk0 hk1 s hs with ⟨e, _⟩ | ⟨u, _, _, hmv, _, ⟨_, e, c⟩ | ⟨_, e, c⟩⟩ <;> rw [e] <;> omega
  -- behind it
  have hn : (overBk b n moved done).2.1.map (·.1) = b.2.1.map (·.1) := by
    rw [ex, List.map_map]; exact List.map_congr_left fun s _ => turn_name (overU_name _ _ _) _ s
  have at_ : ∀ t ∈ (overBk b n moved done).2.1, ∃ s ∈ b.2.1, t.1 = s.1 ∧ t = turn (overU (partX b n).1 moved done) (partX b n).1.2.2.2.1 s := by
    intro t ht
    rw [ex] at ht
    obtain ⟨s, hs, rfl⟩ := List.mem_map.1 ht
    exact ⟨s, hs, turn_name (overU_name _ _ _) _ s, rfl⟩
  have main : ∀ s ∈ b.2.1, (turn (overU (partX b n).1 moved done) (partX b n).1.2.2.2.1 s).2.2.1 ≤ realOf (l.map (turn (flowU moved) (partX b n).1.2.2.2.1)) s.1 ∧ realOf (l.map (turn (flowU moved) (partX b n).1.2.2.2.1)) s.1 ≤ (turn (overU (partX b n).1 moved done) (partX b n).1.2.2.2.1 s).2.2.2.1 := by
    intro s hs
    obtain ⟨_, c2, c3, _, _⟩ := spotOk_iff.1 (o.so s hs)
    have hlo := h.low s hs
    have hhi := h.high s hs
    rcases fl moved hm0 (Int.le_refl _) s hs with ⟨e, h3⟩ | ⟨u, hu, eu, hmv, hm9, hc⟩
    · rw [e]
      have same : (turn (overU (partX b n).1 moved done) (partX b n).1.2.2.2.1 s).2.2.1 = s.2.2.1 ∧ (turn (overU (partX b n).1 moved done) (partX b n).1.2.2.2.1 s).2.2.2.1 = s.2.2.2.1 := by
        by_cases hc : ∃ u ∈ (partX b n).1.2.2.2.1, u.1 = s.1
        · obtain ⟨u, hu, eu⟩ := hc
          rw [turn_in (overU_name _ _ _) hua hu eu]
          unfold overU
          rw [h3 u hu eu]
          exact ⟨rfl, rfl⟩
        · rw [turn_not fun u hu eu => hc ⟨u, hu, eu⟩]
          exact ⟨rfl, rfl⟩
      rw [same.1, same.2]
      exact ⟨hlo, hhi⟩
    · rw [turn_in (overU_name _ _ _) hua hu eu]
      unfold overU
      rcases hc with ⟨e1, e, c⟩ | ⟨e1, e, c⟩
      · rw [e, e1]
        simp only [show ((1 : Int) == 1) = true from rfl, cond_true]
        rw [wr (by omega) (by omega), wr (by omega) (by omega)]
        omega
      · rw [e, e1]
        simp only [show ((2 : Int) == 1) = false from rfl, show ((2 : Int) == 2) = true from rfl, cond_true, cond_false]
        rw [wr (by omega) (by omega), wr (by omega) (by omega)]
        omega
  -- the other parts share no place with this one
  have others : ∀ p ∈ (overBk b n moved done).2.2.2.1, p ∈ b.2.2.2.1 ∧ ∀ u ∈ p.1.2.2.2.1, ∀ v ∈ (partX b n).1.2.2.2.1, v.1 ≠ u.1 := by
    intro p hpm
    obtain ⟨i, hi, hne, ep⟩ := List.mem_eraseIdx_iff_getElem.1 (show p ∈ b.2.2.2.1.eraseIdx (partAt b n).toNat from hpm)
    have hsh := (pp_at o hk hi (fun e => hne e.symm)).1
    rw [← hxk, ep] at hsh
    exact ⟨by rw [← ep]; exact List.getElem_mem hi, fun u hu => share_not hsh hu⟩
  have keep : ∀ s ∈ b.2.1, (∀ v ∈ (partX b n).1.2.2.2.1, v.1 ≠ s.1) → turn (overU (partX b n).1 moved done) (partX b n).1.2.2.2.1 s = s ∧ realOf (l.map (turn (flowU moved) (partX b n).1.2.2.2.1)) s.1 = realOf l s.1 := by
    intro s hs hno
    refine ⟨turn_not hno, ?_⟩
    rcases fl moved hm0 (Int.le_refl _) s hs with ⟨e, _⟩ | ⟨u, hu, eu, _⟩
    · exact e
    · exact absurd eu (hno u hu)
  refine ⟨?_, ?_, ?_, ?_, ?_⟩
  · rw [hn, ← h.names, List.map_map]
    exact List.map_congr_left fun t _ => turn_name (flowU_name moved) _ t
  · intro t ht
    obtain ⟨s, hs, en, rfl⟩ := at_ t ht
    rw [en]; exact (main s hs).1
  · intro t ht
    obtain ⟨s, hs, en, rfl⟩ := at_ t ht
    rw [en]; exact (main s hs).2
  · intro t ht p hpm u hu eu er
    obtain ⟨s, hs, en, rfl⟩ := at_ t ht
    obtain ⟨q1, q2⟩ := others p hpm
    have := q2 u hu
    rw [eu, en] at this
    obtain ⟨k1, k2⟩ := keep s hs this
    rw [en, k1, k2]
    exact h.from' s hs p q1 u hu (by rw [eu, en]) er
  · intro t ht p hpm u hu eu er
    obtain ⟨s, hs, en, rfl⟩ := at_ t ht
    obtain ⟨q1, q2⟩ := others p hpm
    have := q2 u hu
    rw [eu, en] at this
    obtain ⟨k1, k2⟩ := keep s hs this
    rw [en, k1, k2]
    exact h.to' s hs p q1 u hu (by rw [eu, en]) er
end Go.MC
namespace Go.MC
open Go.MC.F
theorem drawDoes {N : Nat} (hN : lim < N) {code : List Int} (h : ∀ x ∈ code, 0 ≤ x ∧ x ≤ 255) : Gives (f_30 N code) fun q => baseB q.1 ∧ q.2.length ≤ 1000 ∧ ∀ d ∈ q.2, mdDo d := by
  have hlim := lim_eq
  have body : ∀ r, rdG 0 r → Gives (ob (f_91 N r) (([], [], [], [], Int.ofNat 0), [], Int.ofNat 0) fun r => ob (f_86 N r.1) ([], [], [], [], Int.ofNat 0) fun r_1 => ob (f_51 N r.2 40) (Int.ofNat 0, [], Int.ofNat 0) fun r_2 =>
      f_30_0 N 0 r.1.1 r.1.2.1 r.1.2.2.1 r.1.2.2.2.1 r.1.2.2.2.2 N r_2.1 r_2.2.1 r_2.2.2 r_1.1 r_1.2.1 r_1.2.2.1 r_1.2.2.2.1 r_1.2.2.2.2 []) fun q => baseB q.1 ∧ q.2.length ≤ 1000 ∧ ∀ d ∈ q.2, mdDo d := by
    intro r hr
    refine (l5Base hN hr (by omega)).ob fun b hb => ?_
    have hok := base_ok hb.2
    rw [ob_eq (l2Copy hN (ok_sm hok))]
    refine (pickG hb.1 (by omega) (by omega)).ob fun p hp => ?_
    obtain ⟨m, hm⟩ : ∃ m : Nat, p.1 = (m : Int) := ⟨p.1.toNat, by omega⟩
    rw [hm]
    refine lp_post m (fun (g : Int → List Int → Int → List Foe → List Spot → List Txt → List Part → Int → List Do → Option (Book × List Do)) i (s : Rdr × Book × List Do) => g ((m - i : Nat) : Int) s.1.1 s.1.2 s.2.1.1 s.2.1.2.1 s.2.1.2.2.1 s.2.1.2.2.2.1 s.2.1.2.2.2.2 s.2.2) (z := fun _ _ _ _ _ _ _ _ _ => none) (rd := fun next => f_30_0r N 0 b.1.1 b.1.2.1 b.1.2.2.1 b.1.2.2.2.1 b.1.2.2.2.2 next) (fun i s => rdG (100 + 1200 * i) s.1 ∧ bookOk s.2.1 = true ∧ s.2.2.length ≤ i ∧ ∀ d ∈ s.2.2, mdDo d) (fun g i s hi hv on => ?_) (fun g s hv => ?_) (N := N) (st := (p.2, b.1, [])) (by omega) ⟨hp.2.2.mono (by omega), hok, by simp, by simp⟩
    · unfold f_30_0r
      have hmd := ok_md hv.2.1
      have hlen := hv.2.2.1
      refine gIf (by omega) ((l5Does hN hmd hmd.2.2.2.1.2 hv.1 (by omega)).ob fun d hd => ?_)
      rw [ob_eq (l5Step hN (ok_sm hv.2.1) (hd.2.1.sm (by omega))), down1 (by omega) hi]
      refine gIf (by omega) (on (d.2, stepB s.2.1 d.1, s.2.2 ++ [d.1]) ⟨hd.1.mono (by omega), step_ok hv.2.1 d.1, by simp; omega, fun x hx => ?_⟩)
      rcases List.mem_append.1 hx with hx | hx
      · exact hv.2.2.2 x hx
      · rw [List.mem_singleton.1 hx]; exact hd.2
    · unfold f_30_0r
      have hlen := hv.2.2.1
      exact gNot (by omega) (.some ⟨hb.2, by show s.2.2.length ≤ 1000; omega, hv.2.2.2⟩)
  unfold f_30 f_30b
  exact gDec (fun hl => gIf (by omega) (body _ (open_rd h))) fun hl => body _ (open_all h hl)
theorem over_code {b : Book} {n moved : Int} {done : Bool} (hb : bookOk b = true) : ((overB b n moved done).2 = 0 → 0 ≤ partAt b n ∧ movedOk (partX b n).1 moved = true ∧ overB b n moved done = (overBk b n moved done, 0)) ∧ ((overB b n moved done).2 ≠ 0 → (overB b n moved done).1 = b) := by
  unfold overB
  rw [hb, cond_true]
  by_cases hp : partAt b n < 0
  · rw [decide_eq_true hp, cond_true]
    exact ⟨fun h => absurd h (by decide : ¬ (3 : Int) = 0), fun _ => rfl⟩
  · rw [decide_eq_false hp, cond_false]
    cases hm : movedOk (partX b n).1 moved with
    | false => exact ⟨fun h => absurd h (by decide : ¬ (2 : Int) = 0), fun _ => rfl⟩
    | true =>
      cases (partX b n).2 with
      | false => exact ⟨fun h => absurd h (by decide : ¬ (12 : Int) = 0), fun _ => rfl⟩
      | true => exact ⟨fun _ => ⟨by omega, rfl, rfl⟩, fun h => absurd rfl h⟩
theorem base_real {b : Book} (h : baseB b) : RealI b (b.2.1.map fun s => (s.1, s.2.2.1)) := by
  have o := bookOk_iff.1 (base_ok h)
  have hp := h.2.2.2.1
  have e : ∀ s ∈ b.2.1, realOf (b.2.1.map fun s => (s.1, s.2.2.1)) s.1 = s.2.2.1 := by
    intro s hs
    unfold realOf
    cases hf : (b.2.1.map fun s => (s.1, s.2.2.1)).find? fun t => t.1 == s.1 with
    | none =>
      have := List.find?_eq_none.1 hf (s.1, s.2.2.1) (List.mem_map.2 ⟨s, hs, rfl⟩)
      simp at this
    | some t =>
      have ht := List.find?_some hf
      obtain ⟨s', hs', e'⟩ := List.mem_map.1 (List.mem_of_find?_eq_some hf)
      obtain ⟨i, hi, ei⟩ := List.mem_iff_getElem.1 hs
      obtain ⟨j, hj, ej⟩ := List.mem_iff_getElem.1 hs'
      have : i = j := asc_inj o.sa hi hj (by rw [ei, ej]; rw [← e'] at ht; exact (beq_iff_eq.1 ht).symm)
      subst this
      rw [← ei, ej, ← e']; rfl
  refine ⟨by rw [List.map_map]; rfl, fun s hs => by rw [e s hs]; exact Int.le_refl _, fun s hs => ?_, by rw [hp]; simp, by rw [hp]; simp⟩
  rw [e s hs]
  have := (h.2.1.2 s hs).2.2.1
  omega
theorem lawFnTop {N : Nat} (hN : lim < N) {code : List Int} (hc : Fit (.slice (.int .u8)) code) : f_100 N code = some true := by
  have hlim := lim_eq
  refine gTrue ?_
  unfold f_100 f_100b
  refine gDec (fun _ => .some rfl) fun _ => (drawDoes hN (bytes_of hc)).ob fun r hr => ?_
  obtain ⟨b, ds⟩ := r
  have hb : baseB b := hr.1
  have hdl : ds.length ≤ 1000 := hr.2.1
  have hds : ∀ d ∈ ds, mdDo d := hr.2.2
  have hbo := base_ok hb
  have o := bookOk_iff.1 hbo
  have main : Gives (f_100_2 N (b, ds) N 0 b.1 b.2.1 b.2.2.1 b.2.2.2.1 b.2.2.2.2 (b.2.1.map fun s => (s.1, s.2.2.1))) (· = true) := by
    refine lp_post ds.length (fun (g : Int → List Foe → List Spot → List Txt → List Part → Int → List Real → Option Bool) i (s : Book × List Real) => g i s.1.1 s.1.2.1 s.1.2.2.1 s.1.2.2.2.1 s.1.2.2.2.2 s.2) (z := fun _ _ _ _ _ _ _ => none) (rd := fun next => f_100_2r N (f_100_5 N next (b, ds)) (b, ds) next) (fun _ s => bookOk s.1 = true ∧ RealI s.1 s.2) (fun g i s hi hv on => ?_) (fun g s hv => ?_) (N := N) (st := (b, _)) (by omega) ⟨hbo, base_real hb⟩
    · obtain ⟨x, l⟩ := s
      obtain ⟨hx, hl⟩ := hv
      have hx : bookOk x = true := hx
      have hl : RealI x l := hl
      have hsm := ok_sm hx
      have hd := hds _ (List.getElem_mem hi)
      have hl8 := (bookOk_iff.1 hx).sl
      have hll := hl.len
      have tail : ∀ (y : Book) (l' : List Real), bookOk y = true → RealI y l' → Gives (ob (f_101 N y y) false fun r_31 => bif !r_31 then some false else ob (f_34 N y) false fun r_32 => bif !r_32 then some false else ob (f_105 N y) false fun r_33 => bif !r_33 then some false else ob (f_68 N y l') false fun r_34 => bif !r_34 then some false else g ((i + 1 : Nat) : Int) y.1 y.2.1 y.2.2.1 y.2.2.2.1 y.2.2.2.2 l') (· = true) := by
        intro y l' hy hl'
        have h8 := (bookOk_iff.1 hy).sl
        have := hl'.len
        simp only [ob_eq (wBook hN (ok_sm hy)), ob_eq (implBookOk hN (ok_sm hy)), hy, ob_eq (wSafe hN hy), ob_eq (wBounds hN (by omega) (by omega) fun s hs => ⟨hl'.low s hs, hl'.high s hs⟩), Bool.not_true, cond_false]
        exact on (y, l') ⟨hy, hl'⟩
      unfold f_100_2r
      simp only [gAt hi, wrS (show i ≤ 1000000000000000000 by omega)]
      refine gIf (by omega) (gIf (by omega) (gIf (by omega) (gDec (fun _ => ?_) fun _ => gDec (fun _ => ?_) fun _ => ?_)))
      · rw [ob_eq (show f_44 N (x.1, x.2.1, x.2.2.1, x.2.2.2.1, x.2.2.2.2) _ = _ from implStop hN hsm _), ob_eq (show f_49 N (x.1, x.2.1, x.2.2.1, x.2.2.2.1, x.2.2.2.2) _ = _ from specStop hN hsm _), bne_self_eq_false, cond_false]
        exact tail _ _ (stop_ok hx) (stop_real hl hx _)
      · rw [ob_eq (show f_43 N (x.1, x.2.1, x.2.2.1, x.2.2.2.1, x.2.2.2.2) _ _ _ = _ from implOver hN hsm _ _ _), ob_eq (show f_48 N (x.1, x.2.1, x.2.2.1, x.2.2.2.1, x.2.2.2.2) _ _ _ = _ from specOver hN hsm _ _ _), bne_self_eq_false]
        generalize hn : ds[i].2.2.1 = n
        generalize hmv : ds[i].2.2.2.1 = mv at hd
        generalize ds[i].2.2.2.2 = done
        have hmv2 : -1 ≤ mv ∧ mv ≤ 1002 := by rw [← hmv]; exact hd.2
        obtain ⟨c0, c1⟩ := over_code (n := n) (moved := mv) (done := done) hx
        refine gBy (fun h0 => ?_) fun h0 => ?_
        · obtain ⟨hp, hm, eo⟩ := c0 (beq_iff_eq.1 h0)
          rw [eo]
          have oo := overBk_ok (done := done) hx hp hm
          obtain ⟨fb, fr⟩ := over_real (done := done) hl hx hp hm hmv2.2
          have hm0 : 0 ≤ mv := by
            unfold movedOk at hm
            simp only [Bool.and_eq_true, Bool.not_eq_true', decide_eq_false_iff_not] at hm
            omega
          have hw8 : (partX x n).1.2.2.2.1.length ≤ 1000 := by
            have := (want_md ((bookOk_iff.1 hx).po _ (List.mem_map.2 ⟨_, partX_mem hp, rfl⟩)).2.1).2.1.1
            omega
          have eW : f_103 N (x.1, x.2.1, x.2.2.1, x.2.2.2.1, x.2.2.2.2) n = some (partX x n).1 := (wPart hN hsm n).trans (by rw [wantOf_at hx hp])
          refine lp_post (mv + 1).toNat (fun (g : Int → Option Bool) k (_ : Unit) => g k) (z := fun _ => none) (rd := fun next => f_100_5r N g (b, ds) i x.1 x.2.1 x.2.2.1 x.2.2.2.1 x.2.2.2.2 l (overBk x n mv done, 0) (overBk x n mv done, 0) ds[i].1.1 ds[i].1.2.1 ds[i].1.2.2.1 ds[i].1.2.2.2.1 ds[i].1.2.2.2.2.1 ds[i].1.2.2.2.2.2 ds[i].2.1 n mv done next) (fun _ _ => True) (fun g2 k st hk _ on2 => ?_) (fun g2 st _ => ?_) (N := N) (st := ()) (by omega) trivial
          · unfold f_100_5r
            refine gIf (by omega) ?_
            rw [ob_eq eW, ob_eq (wFlow hN (by omega) hw8 _), ob_eq (show f_68 N (x.1, x.2.1, x.2.2.1, x.2.2.2.1, x.2.2.2.2) _ = _ from wBounds hN (show x.2.1.length ≤ 1000 by omega) (by rw [List.length_map]; omega) (fb k (by omega) (by omega))), wrS (show k ≤ 1000000000000000000 by omega)]
            exact on2 () trivial
          · unfold f_100_5r
            refine gNot (by omega) ?_
            rw [ob_eq eW, ob_eq (wFlow hN (by omega) hw8 _), bne_self_eq_false, cond_false, wrS (show i ≤ 1000000000000000000 by omega)]
            exact tail _ _ oo fr
        · have e1 := c1 (beq_eq_false_iff_ne.1 h0)
          rw [cond_false]
          refine tail _ _ (over_ok hx) ?_
          rw [e1]; exact hl
      · rw [ob_eq (show f_40 N (x.1, x.2.1, x.2.2.1, x.2.2.2.1, x.2.2.2.2) _ = _ from implGrant hN hsm (hd.1.sm (by omega))), ob_eq (show f_41 N (x.1, x.2.1, x.2.2.1, x.2.2.2.1, x.2.2.2.2) _ = _ from specGrant hN hsm (hd.1.sm (by omega))), bne_self_eq_false, cond_false]
        exact tail _ _ (grant_ok hx) (grant_real hl hx _)
    · unfold f_100_2r
      refine gNot (by show ¬ ((ds.length : Nat) : Int) < ((ds.length : Nat) : Int); omega) ?_
      rw [ob_eq (show f_34 N (s.1.1, s.1.2.1, s.1.2.2.1, s.1.2.2.2.1, s.1.2.2.2.2) = _ from implBookOk hN (ok_sm hv.1))]
      exact .some hv.1
  have hl8 := o.sl
  refine lp_post b.2.1.length (fun (g : Int → List Real → Option Bool) i (z : List Real) => g i z) (z := fun _ _ => none) (rd := fun next => f_100_0r N (f_100_2 N) (b, ds) next) (fun i z => z = (b.2.1.take i).map fun s => (s.1, s.2.2.1)) (fun g i z hi hv on => ?_) (fun g z hv => ?_) (N := N) (st := []) (by omega) (by simp)
  · have hlz : z.length = i := by rw [hv, List.length_map, List.length_take]; omega
    have hsp := hb.2.1.2 _ (List.getElem_mem hi)
    unfold f_100_0r
    simp only [gAt hi, wrS (show i ≤ 1000000000000000000 by omega)]
    refine gIf (by omega) (gIf (by omega) (gIf (by omega) (gIf (by omega) (gIf (by omega) (gIf (by simp only [List.length_cons, List.length_nil]; omega) (gIf (by omega) (gIf (by omega) (gIf (by omega) (gIf (by omega) (gBy (fun h => ?_) fun _ => on _ ?_))))))))))
    · rw [hsp.2.2.1] at h
      simp at h
    · rw [hv, List.take_add_one, List.getElem?_eq_getElem hi, Option.toList_some, List.map_append]
      rfl
  · unfold f_100_0r
    refine gNot (by show ¬ ((b.2.1.length : Nat) : Int) < ((b.2.1.length : Nat) : Int); omega) ?_
    rw [hv, List.take_length]
    exact main
end Go.MC
namespace Go.Proofs.YtaihjhaabnfenaaGreat.fnTop
open Go.ChangeShapes Go.WideShapes Go.ChangeAt Go.RowKit Go.MC
open Go.ChangeMaps (open_string shut_string)
theorem own : ownKnob Tryz.prog.godebug = none := by kernel_rfl
theorem laidOut : laidOutB Tryz.prog = true := by kernel_rfl
set_option maxRecDepth 100000 in
theorem lifted (os : Os) (started : os.Started) (H : Type) (enc : TypeId × Value → H) :
    ReturnsInHanded {} Tryz.checked os 3 .any (Rows.fnTopSpec.pre6 enc Tryz.prog Tryz.f3 Rows.fnTopRow.domain false) (Rows.fnTopSpec.post enc Tryz.prog Tryz.f3 false true false false) := by
  refine returnsInHanded_of_change_sized (C := Tryz.checked) own started (by kernel_rfl) Tryz.func3
    (ChangeSpec.witness6 (enc := enc) (C := Tryz.checked) false ⟨#[], #[.slice none 0 0], []⟩ 8 (by kernel_rfl) (by kernel_rfl) (by kernel_rfl) (by kernel_rfl)) ?_
  intro W base args ds gs before hval0 hW hcnd hsz0 _
  have hsz : (DataW.weightsEach Tryz.prog (Tryz.f3.params.toList ++ Rows.fnTopSpec.plain.varTypes Tryz.prog) (ds ++ gs)).all (· ≤ reachBytes) = true := hsz0
  have hval : ∀ (j : Nat) t v, Tryz.f3.params[j]? = some t → args[j]? = some v → Value.okWide Tryz.prog W .any base t v := hval0
  have hW' := hW
  obtain ⟨p, q, hA0, hV, rfl, hfz, hnd⟩ := hW
  have hA : DataW.TrodAll enc Tryz.prog W 0 (fun _ => true) true Tryz.f3.params.toList args.toList ds p := hA0
  rw [Tryz.params3] at hA hval hsz
  obtain ⟨v0, vs0, d0, ds0, p0, q0, hargs, rfl, rfl, h0, r0⟩ := trodAll_cons hA
  obtain ⟨rfl, rfl, rfl⟩ := trodAll_nil r0
  obtain rfl : args = #[v0] := by cases args; simp_all
  obtain ⟨rfl, rfl⟩ := trodVars_none hV
  have lt0 : ∀ x ∈ p0, x.block < W.heap.size := by obtain ⟨m, hm⟩ := h0; exact DataW.trod_lt m _ _ _ hm
  obtain ⟨x0, cs0, hx0, hs0⟩ := arg_rd (n := 12) (t := (.slice tByte)) (by kernel_rfl) (hval 0 22 v0 rfl rfl) h0 hsz (j := 0) rfl rfl
  clear hA0 hval0 hsz0 hsz
  have law : F.f_100 (lim + 1) x0 = some true := lawFnTop (N := lim + 1) (Nat.lt_succ_self _) (id hx0.fit)
  have hout := summ_out1 (f := F.f_100 (lim + 1)) law (rs := [.d .bool false]) (ts := [.bool]) (fz := false) (a := false) (t := (.slice tByte)) (x := x0) (r := true)
  refine (law_calls (con_f_100 (lim + 1)) (args := [v0]) (ds := [⟨(.slice tByte), x0⟩]) ⟨v0, [], [], rfl, rfl, ⟨rfl, rfl⟩⟩
    ⟨v0, [], x0, [], cs0, rfl, rfl, hx0, hs0, ⟨rfl, rfl, rfl, rfl⟩⟩ hout.1 hout.2 rfl).mono fun e W' ⟨he, bel⟩ => ?_
  subst he
  exact ⟨_, rfl, _, _, _, [], _, [], hW', trodAll_mk1 (shut_bool Tryz.underlying4 _), (trodAll_cons_mk (Below.trod laidOut (by kernel_rfl) (of_decide_eq_true (by kernel_rfl)) h0 bel lt0) trodAll_mk0), rfl, bel.frame _, fun h => by cases h⟩
theorem over : Rows.fnTopRow.holds Tryz.pinned (OpenSpec.ofChange Rows.fnTopSpec) :=
  OpenClaim.holds_of_wide 3 Tryz.f3 rfl rfl rfl rfl rfl rfl rfl ⟨rfl, rfl, rfl, rfl, rfl⟩ rfl rfl rfl rfl rfl (by kernel_rfl) Tryz.func3 (by kernel_rfl)
    (of_decide_eq_true (by kernel_rfl)) (by unfold Func.isWrapper; first | (rw [if_pos (by decide +kernel)]; kernel_rfl) | (rw [if_neg (by decide +kernel)]; exact ⟨rfl, rfl⟩))
    (fun os started H enc _ => lifted os started H enc)
theorem proved : Rows.FnTopSaid := over
#print axioms proved
end Go.Proofs.YtaihjhaabnfenaaGreat.fnTop
namespace Go.Proofs.YtaihjhaabnfenaaGreat
theorem fnTop_holds : Rows.FnTopSaid := fnTop.proved
end Go.Proofs.YtaihjhaabnfenaaGreat

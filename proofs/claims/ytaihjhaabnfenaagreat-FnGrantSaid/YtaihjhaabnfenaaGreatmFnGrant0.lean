/- Part 0 of the texts of the claim FnGrant: an interpreter of the translated code over data, proved sound; the contracts of the functions; the same in plain words. -/
import Derived.Maps.AppendAt
import Derived.Below
import Derived.KernelRfl
import Derived.Laws.StructEq
import Derived.Laws.BytesArg
set_option linter.unusedVariables false
set_option linter.unusedSimpArgs false
namespace Go.MC
open Go.RowKit
inductive Ty where
  | bool
  | int (k : IntKind)
  | str
  | slice (r : Ty)
  | pair (a b : Ty)
  deriving DecidableEq, Inhabited
@[reducible] def Ty.den : Ty → Type
  | .bool => Bool
  | .int _ => Int
  | .str => List UInt8
  | .slice r => List r.den
  | .pair a b => a.den × b.den
def Ty.sz : Ty → Nat
  | .pair a b => a.sz + b.sz
  | _ => 1
theorem Ty.sz_pos : ∀ t : Ty, 0 < t.sz
  | .bool => Nat.one_pos
  | .int _ => Nat.one_pos
  | .str => Nat.one_pos
  | .slice _ => Nat.one_pos
  | .pair a _ => Nat.lt_of_lt_of_le a.sz_pos (Nat.le_add_right _ _)
def Ty.dflt : (t : Ty) → t.den
  | .bool => false
  | .int _ => (0 : Int)
  | .str => []
  | .slice _ => []
  | .pair a b => (a.dflt, b.dflt)
def lim : Nat := 140737488355328
def Fit : (t : Ty) → t.den → Prop
  | .bool, _ => True
  | .int k, n => k.has n
  | .str, s => s.length ≤ lim
  | .slice r, xs => xs.length ≤ lim ∧ ∀ x ∈ xs, Fit r x
  | .pair a b, x => Fit a x.1 ∧ Fit b x.2
def Rd (w : World) (ok : Nat → Prop) : (t : Ty) → t.den → List Value → Prop
  | .bool, b, vs => vs = [.bool b]
  | .int k, n, vs => vs = [.int k n] ∧ k.has n
  | .str, s, vs => vs = [.string ⟨⟨s⟩⟩] ∧ s.length ≤ lim
  | .slice r, xs, vs => ∃ a cap, vs = [.slice a xs.length cap] ∧ xs.length ≤ cap ∧ xs.length ≤ lim ∧
      ∀ j x, xs[j]? = some x → ∃ ad cs, a = some ad ∧ ok ad.block ∧ Rd w ok r x cs ∧ ∀ i v, cs[i]? = some v → w.cell? (ad.add (j * r.sz + i)) = some v
  | .pair a b, x, vs => ∃ v1 v2, vs = v1 ++ v2 ∧ Rd w ok a x.1 v1 ∧ Rd w ok b x.2 v2
theorem Rd.length {w : World} {ok : Nat → Prop} : ∀ {t : Ty} {x : t.den} {vs : List Value}, Rd w ok t x vs → vs.length = t.sz
  | .bool, _, _, h => by simp only [Rd] at h; subst h; rfl
  | .int _, _, _, h => by simp only [Rd] at h; rw [h.1]; rfl
  | .str, _, _, h => by simp only [Rd] at h; rw [h.1]; rfl
  | .slice _, _, _, h => by simp only [Rd] at h; obtain ⟨_, _, rfl, _⟩ := h; rfl
  | .pair _ _, _, _, h => by
    simp only [Rd] at h
    obtain ⟨v1, v2, rfl, h1, h2⟩ := h
    simp [Ty.sz, h1.length, h2.length]
theorem Rd.fit {w : World} {ok : Nat → Prop} : ∀ {t : Ty} {x : t.den} {vs : List Value}, Rd w ok t x vs → Fit t x
  | .bool, _, _, _ => trivial
  | .int _, _, _, h => by simp only [Rd] at h; exact h.2
  | .str, _, _, h => by simp only [Rd] at h; exact h.2
  | .slice r, xs, _, h => by
    simp only [Rd] at h
    obtain ⟨_, _, _, _, hl, hx⟩ := h
    refine ⟨hl, fun x hm => ?_⟩
    obtain ⟨j, hj⟩ := List.getElem?_of_mem hm
    obtain ⟨_, _, _, _, hr, _⟩ := hx j x hj
    exact hr.fit
  | .pair _ _, _, _, h => by
    simp only [Rd] at h
    obtain ⟨v1, v2, _, h1, h2⟩ := h
    exact ⟨h1.fit, h2.fit⟩
theorem Rd.one {w : World} {ok : Nat → Prop} : ∀ {t : Ty} {x : t.den} {vs : List Value}, Rd w ok t x vs → ∀ v ∈ vs, v.oneCell' = true
  | .bool, _, _, h => by simp only [Rd] at h; subst h; intro v hv; simp at hv; subst hv; rfl
  | .int _, _, _, h => by simp only [Rd] at h; rw [h.1]; intro v hv; simp at hv; subst hv; rfl
  | .str, _, _, h => by simp only [Rd] at h; rw [h.1]; intro v hv; simp at hv; subst hv; rfl
  | .slice _, _, _, h => by simp only [Rd] at h; obtain ⟨_, _, rfl, _⟩ := h; intro v hv; simp at hv; subst hv; rfl
  | .pair _ _, _, _, h => by
    simp only [Rd] at h
    obtain ⟨v1, v2, rfl, h1, h2⟩ := h
    intro v hv
    rcases List.mem_append.1 hv with hv | hv
    · exact h1.one v hv
    · exact h2.one v hv
theorem Rd.mono {w w' : World} {ok ok' : Nat → Prop} (ho : ∀ b, ok b → ok' b) (hw : ∀ b, ok b → b < w.heap.size → w'.heap[b]? = w.heap[b]?) :
    ∀ {t : Ty} {x : t.den} {vs : List Value}, Rd w ok t x vs → Rd w' ok' t x vs
  | .bool, _, _, h => by simpa only [Rd] using h
  | .int _, _, _, h => by simpa only [Rd] using h
  | .str, _, _, h => by simpa only [Rd] using h
  | .slice r, xs, _, h => by
    simp only [Rd] at h ⊢
    obtain ⟨a, cap, hv, hc, hl, hx⟩ := h
    refine ⟨a, cap, hv, hc, hl, fun j x hj => ?_⟩
    obtain ⟨ad, cs, ha, hok, hr, hcell⟩ := hx j x hj
    refine ⟨ad, cs, ha, ho _ hok, hr.mono ho hw, fun i v hi => ?_⟩
    have hb : (ad.add (j * r.sz + i)).block = ad.block := by unfold Addr.add; split <;> rfl
    have h0 := hcell i v hi
    have hlt := World.block_lt_of_cell? w _ h0
    rw [hb] at hlt
    rw [World.cell?_of_block (w := w) (by rw [hb]; exact hw _ hok hlt)]
    exact h0
  | .pair _ _, _, _, h => by
    simp only [Rd] at h ⊢
    obtain ⟨v1, v2, hv, h1, h2⟩ := h
    exact ⟨v1, v2, hv, h1.mono ho hw, h2.mono ho hw⟩
theorem add_block (ad : Addr) (n : Nat) : (ad.add n).block = ad.block := by unfold Addr.add; split <;> rfl
theorem add_add (ad : Addr) (m n : Nat) : (ad.add m).add n = ad.add (m + n) := by
  unfold Addr.add
  by_cases hm : m = 0
  · subst hm; simp
  · by_cases hn : n = 0
    · subst hn; simp [hm]
    · simp [hm, hn, Nat.add_assoc]
theorem add_lit (g n : Nat) : (⟨g, 0, none⟩ : Addr).add n = ⟨g, n, none⟩ := by unfold Addr.add; split <;> simp_all
theorem add_lit2 (g m n : Nat) : (⟨g, m, none⟩ : Addr).add n = ⟨g, m + n, none⟩ := by unfold Addr.add; split <;> simp_all
def CellsAt (w : World) (ad : Addr) (vs : List Value) : Prop := ∀ i v, vs[i]? = some v → w.cell? (ad.add i) = some v
theorem CellsAt.append {w : World} {ad : Addr} {v1 v2 : List Value} : CellsAt w ad (v1 ++ v2) ↔ CellsAt w ad v1 ∧ CellsAt w (ad.add v1.length) v2 := by
  constructor
  · intro h
    refine ⟨fun i v hi => h i v ?_, fun i v hi => ?_⟩
    · rw [List.getElem?_append_left (List.getElem?_eq_some_iff.1 hi).1]; exact hi
    · rw [add_add]
      exact h _ v (by rw [List.getElem?_append_right (by omega)]; simpa using hi)
  · rintro ⟨h1, h2⟩ i v hi
    by_cases hlt : i < v1.length
    · rw [List.getElem?_append_left hlt] at hi; exact h1 i v hi
    · rw [List.getElem?_append_right (by omega)] at hi
      have := h2 _ v hi
      rw [add_add] at this
      rwa [show v1.length + (i - v1.length) = i by omega] at this
theorem CellsAt.mono {w w' : World} {ad : Addr} {vs : List Value} (h : CellsAt w ad vs) (hb : w'.heap[ad.block]? = w.heap[ad.block]?) : CellsAt w' ad vs := fun i v hi => by
  rw [World.cell?_of_block (w := w) (by rw [add_block]; exact hb)]
  exact h i v hi
theorem Rd.at {w : World} {ok : Nat → Prop} {r : Ty} {xs : List r.den} {a : Option Addr} {n cap : Nat} (h : Rd w ok (.slice r) xs [.slice a n cap]) {j : Nat} (hj : j < xs.length) :
    n = xs.length ∧ ∃ ad cs, a = some ad ∧ ok ad.block ∧ Rd w ok r (xs.getD j r.dflt) cs ∧ CellsAt w (ad.add (j * r.sz)) cs := by
  simp only [Rd] at h
  obtain ⟨a', cap', hv, hc, hl, hx⟩ := h
  injection hv with hv _
  injection hv with h1 h2 h3
  refine ⟨h2, ?_⟩
  obtain ⟨ad, cs, ha, hok, hr, hcell⟩ := hx j _ (List.getElem?_eq_getElem hj)
  refine ⟨ad, cs, h1.trans ha, hok, ?_, fun i v hi => ?_⟩
  · rw [List.getD_eq_getElem?_getD, List.getElem?_eq_getElem hj]; exact hr
  · rw [add_add]; exact hcell i v hi
theorem Rd.slice_form {w : World} {ok : Nat → Prop} {r : Ty} {xs : List r.den} {vs : List Value} (h : Rd w ok (.slice r) xs vs) :
    ∃ a cap, vs = [.slice a xs.length cap] ∧ xs.length ≤ cap ∧ xs.length ≤ lim := by
  simp only [Rd] at h
  obtain ⟨a, cap, hv, hc, hl, _⟩ := h
  exact ⟨a, cap, hv, hc, hl⟩
theorem Rd.piece {w : World} {ok : Nat → Prop} {r : Ty} {xs : List r.den} {a : Option Addr} {n cap : Nat} (h : Rd w ok (.slice r) xs [.slice a n cap]) (l k m : Nat) (hl : l ≤ k) (hk : k ≤ xs.length) (hm : k ≤ m) (hmc : m ≤ cap) :
    Rd w ok (.slice r) ((xs.take k).drop l) [.slice (if m = l then a else a.map (·.add (l * r.sz))) (k - l) (m - l)] := by
  simp only [Rd] at h ⊢
  obtain ⟨a', cap', hv, hc, hlm, hx⟩ := h
  injection hv with hv _
  injection hv with h1 h2 h3
  subst h1 h2 h3
  have hlen : ((xs.take k).drop l).length = k - l := by simp; omega
  refine ⟨_, _, by rw [hlen], by rw [hlen]; omega, by rw [hlen]; omega, fun j x hj => ?_⟩
  have hjl : j < k - l := by rw [← hlen]; exact (List.getElem?_eq_some_iff.1 hj).1
  have hj' : xs[l + j]? = some x := by
    rw [List.getElem?_drop, List.getElem?_take] at hj
    rwa [if_pos (by omega)] at hj
  obtain ⟨ad, cs, ha, hok, hr, hcell⟩ := hx (l + j) x hj'
  have hne : m ≠ l := by omega
  refine ⟨ad.add (l * r.sz), cs, by rw [if_neg hne, ha]; rfl, by rw [add_block]; exact hok, hr, fun i v hi => ?_⟩
  rw [add_add]
  have := hcell i v hi
  rwa [Nat.add_mul, Nat.add_assoc] at this
theorem Rd.nil {w : World} {ok : Nat → Prop} (r : Ty) (a : Option Addr) (cap : Nat) : Rd w ok (.slice r) [] [.slice a 0 cap] := by
  simp only [Rd]
  exact ⟨a, cap, rfl, by simp, by simp, fun j x hj => by simp at hj⟩
def RdRows (w : World) (ok : Nat → Prop) (r : Ty) : List r.den → List Value → Prop
  | [], vs => vs = []
  | x :: xs, vs => ∃ v1 v2, vs = v1 ++ v2 ∧ Rd w ok r x v1 ∧ RdRows w ok r xs v2
theorem RdRows.length {w : World} {ok : Nat → Prop} {r : Ty} : ∀ {xs : List r.den} {vs : List Value}, RdRows w ok r xs vs → vs.length = xs.length * r.sz
  | [], _, h => by simp only [RdRows] at h; subst h; simp
  | x :: xs, _, h => by
    obtain ⟨v1, v2, rfl, h1, h2⟩ := h
    simp [h1.length, h2.length, Nat.add_mul, Nat.add_comm]
theorem RdRows.mono {w w' : World} {ok ok' : Nat → Prop} (ho : ∀ b, ok b → ok' b) (hw : ∀ b, ok b → b < w.heap.size → w'.heap[b]? = w.heap[b]?) {r : Ty} :
    ∀ {xs : List r.den} {vs : List Value}, RdRows w ok r xs vs → RdRows w' ok' r xs vs
  | [], _, h => h
  | _ :: _, _, h => by
    obtain ⟨v1, v2, hv, h1, h2⟩ := h
    exact ⟨v1, v2, hv, h1.mono ho hw, RdRows.mono ho hw h2⟩
theorem RdRows.append {w : World} {ok : Nat → Prop} {r : Ty} : ∀ {xs ys : List r.den} {us vs : List Value}, RdRows w ok r xs us → RdRows w ok r ys vs → RdRows w ok r (xs ++ ys) (us ++ vs)
  | [], _, _, _, h, k => by simp only [RdRows] at h; subst h; simpa using k
  | _ :: _, _, _, _, h, k => by
    obtain ⟨v1, v2, rfl, h1, h2⟩ := h
    exact ⟨v1, v2 ++ _, by simp, h1, RdRows.append h2 k⟩
theorem RdRows.one {w : World} {ok : Nat → Prop} {r : Ty} : ∀ {xs : List r.den} {vs : List Value}, RdRows w ok r xs vs → ∀ v ∈ vs, v.oneCell' = true
  | [], _, h => by simp only [RdRows] at h; subst h; simp
  | _ :: _, _, h => by
    obtain ⟨v1, v2, rfl, h1, h2⟩ := h
    intro v hv
    rcases List.mem_append.1 hv with hv | hv
    · exact h1.one v hv
    · exact RdRows.one h2 v hv
theorem RdRows.fit {w : World} {ok : Nat → Prop} {r : Ty} : ∀ {xs : List r.den} {vs : List Value}, RdRows w ok r xs vs → ∀ x ∈ xs, Fit r x
  | [], _, _ => by simp
  | _ :: _, _, h => by
    obtain ⟨v1, v2, rfl, h1, h2⟩ := h
    intro y hy
    rcases List.mem_cons.1 hy with rfl | hy
    · exact h1.fit
    · exact RdRows.fit h2 y hy
theorem RdRows.split {w : World} {ok : Nat → Prop} {r : Ty} : ∀ {xs : List r.den} {vs : List Value} (j : Nat), RdRows w ok r xs vs → j < xs.length →
    ∃ u c v, vs = u ++ (c ++ v) ∧ u.length = j * r.sz ∧ Rd w ok r (xs.getD j r.dflt) c ∧ (∀ (ok' : Nat → Prop) x' c', (∀ b, ok b → ok' b) → Rd w ok' r x' c' → RdRows w ok' r (xs.set j x') (u ++ (c' ++ v)))
  | [], _, _, _, h => by simp at h
  | x :: xs, _, 0, h, _ => by
    obtain ⟨v1, v2, rfl, h1, h2⟩ := h
    exact ⟨[], v1, v2, rfl, by simp, h1, fun ok' x' c' ho h' => ⟨c', v2, rfl, h', RdRows.mono ho (fun _ _ _ => rfl) h2⟩⟩
  | x :: xs, _, j + 1, h, hj => by
    obtain ⟨v1, v2, rfl, h1, h2⟩ := h
    obtain ⟨u, c, v, rfl, hu, hc, hs⟩ := RdRows.split j h2 (by simpa using hj)
    exact ⟨v1 ++ u, c, v, by simp, by simp [hu, h1.length, Nat.add_mul, Nat.add_comm], hc, fun ok' x' c' ho h' => ⟨v1, _, by simp, h1.mono ho (fun _ _ _ => rfl), hs ok' x' c' ho h'⟩⟩
theorem RdRows.slice {w : World} {ok : Nat → Prop} {r : Ty} {xs : List r.den} {vs : List Value} (h : RdRows w ok r xs vs) (ad : Addr) (cap : Nat) (hat : xs ≠ [] → CellsAt w ad vs) (hok : xs ≠ [] → ok ad.block) (hc : xs.length ≤ cap) (hl : xs.length ≤ lim) :
    Rd w ok (.slice r) xs [.slice (some ad) xs.length cap] := by
  simp only [Rd]
  refine ⟨_, _, rfl, hc, hl, fun j x hj => ?_⟩
  have hjl := (List.getElem?_eq_some_iff.1 hj).1
  have hne : xs ≠ [] := by rintro rfl; simp at hjl
  obtain ⟨u, c, v, rfl, hu, hr, _⟩ := h.split j hjl
  have hx : xs.getD j r.dflt = x := by rw [List.getD_eq_getElem?_getD, hj]; rfl
  rw [hx] at hr
  refine ⟨ad, c, rfl, hok hne, hr, fun i v' hi => ?_⟩
  have h2 := ((CellsAt.append.1 ((CellsAt.append.1 (hat hne)).2)).1) i v' hi
  rwa [add_add, hu] at h2
theorem Rd.rows {w : World} {ok : Nat → Prop} {r : Ty} : ∀ {xs : List r.den} {a : Option Addr} {n cap : Nat}, Rd w ok (.slice r) xs [.slice a n cap] →
    ∃ vs, RdRows w ok r xs vs ∧ n = xs.length ∧ (xs ≠ [] → ∃ ad, a = some ad ∧ ok ad.block ∧ CellsAt w ad vs) := by
  intro xs a n cap h
  simp only [Rd] at h
  obtain ⟨a', cap', hv, hc, hlm, hx⟩ := h
  injection hv with hv _
  injection hv with h1 h2 h3
  subst h1 h2 h3
  suffices H : ∀ (ys : List r.den) (k : Nat), (∀ j x, ys[j]? = some x → ∃ ad cs, a = some ad ∧ ok ad.block ∧ Rd w ok r x cs ∧ ∀ i v, cs[i]? = some v → w.cell? (ad.add ((k + j) * r.sz + i)) = some v) →
      ∃ vs, RdRows w ok r ys vs ∧ (ys ≠ [] → ∃ ad, a = some ad ∧ ok ad.block ∧ CellsAt w (ad.add (k * r.sz)) vs) by
    obtain ⟨vs, h1, h2⟩ := H xs 0 (by simpa using hx)
    refine ⟨vs, h1, rfl, fun hne => ?_⟩
    obtain ⟨ad, ha, hok, hc⟩ := h2 hne
    exact ⟨ad, ha, hok, by rw [Nat.zero_mul] at hc; exact hc⟩
  intro ys
  induction ys with
  | nil => exact fun k _ => ⟨[], rfl, fun h => absurd rfl h⟩
  | cons y ys ih =>
    intro k hy
    obtain ⟨vs, h1, h2⟩ := ih (k + 1) (fun j x hj => by
      have := hy (j + 1) x (by simpa using hj)
      rwa [show k + (j + 1) = k + 1 + j by omega] at this)
    obtain ⟨ad, cs, ha, hok, hr, hcell⟩ := hy 0 y (by simp)
    refine ⟨cs ++ vs, ⟨cs, vs, rfl, hr, h1⟩, fun _ => ⟨ad, ha, hok, CellsAt.append.2 ⟨fun i v hi => ?_, ?_⟩⟩⟩
    · rw [add_add]; simpa using hcell i v hi
    · rw [hr.length, add_add]
      by_cases hne : ys = []
      · subst hne
        simp only [RdRows] at h1
        subst h1
        intro i v hi
        simp at hi
      · obtain ⟨ad', ha', _, hc'⟩ := h2 hne
        rw [ha] at ha'
        injection ha' with ha'
        subst ha'
        rw [show k * r.sz + r.sz = (k + 1) * r.sz by rw [Nat.add_mul, Nat.one_mul]]
        exact hc'
end Go.MC

set_option linter.unusedVariables false
set_option linter.unusedSimpArgs false
namespace Go.MC
open Go.RowKit
inductive C where
  | u
  | nd
  | v (t : Ty) (x : t.den)
  | emp
  | mt
  | arr (id : Nat)
  | pd (t : Ty) (x : t.den)
  | pb (id off : Nat)
  | pa (id : Nat) (j : Int) (p : List (Nat × Nat))
  | fn (g : Nat) (caps : List Nat)
inductive V1 where
  | one (c : C)
  | agg (cs : List C)
inductive AV where
  | w (v : V1)
  | tup (vs : List V1)
inductive Dp where
  | no
  | yes (ns : List Nat) (hs : Option (Int × List (Nat × Nat) × Nat) := none)
def Dp.rd : Dp → Bool
  | .no => true
  | .yes _ none => true
  | .yes _ (some _) => false
def dpO : Option (List Nat) → Dp
  | none => .no
  | some ns => .yes ns
def isPar (id : Nat) : Bool := Nat.ble 400000 id && Nat.blt id 500000
inductive Ob where
  | box (cs : List C)
  | arr (e : Nat) (r : Ty) (xs : List r.den) (d : Dp := .no)
  | imm (r : Ty) (xs : List r.den)
  | gone
structure St where
  fr : List (Nat × AV)
  H : List (Nat × Ob)
def lkF : List (Nat × AV) → Nat → AV
  | [], _ => .w (.one .u)
  | (j, v) :: l, i => bif Nat.beq j i then v else lkF l i
def lkH : List (Nat × Ob) → Nat → Option Ob
  | [], _ => none
  | (j, o) :: l, i => bif Nat.beq j i then some o else lkH l i
structure TD where
  sz : Nat
  bytes : Nat
  agg : Bool
  ty : Ty
  zero : List C
  flds : List (Nat × Nat)
  elem : Nat
  dat : Bool
  eqs : List Ty
  ns : List Nat
def TD.dp (td : TD) : Dp := match td.ns with
  | [] => .no
  | n :: ns => .yes (n :: ns)
abbrev Dv : Type := Sigma Ty.den
inductive SP where
  | dd (t : Ty)
  | ow (e : Nat) (r : Ty) (o : Option (List Nat))
  | mv (e : Nat) (r : Ty) (o : Option (List Nat))
inductive PS where
  | d (t : Ty) (agg : Bool)
  | bx (t : Ty)
  | cl (g : Nat) (ts : List Ty)
  | ow (e : Nat) (r : Ty) (o : Option (List Nat))
  | mv (e : Nat) (r : Ty) (o : Option (List Nat))
  | sp (l : List SP)
def SP.ps : SP → PS
  | .dd t => .d t false
  | .ow e r o => .ow e r o
  | .mv e r o => .mv e r o
inductive RS where
  | d (t : Ty) (agg : Bool)
  | own (t : Ty) (agg : Bool) (es : List (Nat × Option (List Nat)))
  | any
structure Summ where
  ps : List PS
  fz : Bool
  pre : List Dv → Bool
  out : List Dv → List Dv
  rs : List RS
inductive M (α : Type) : Type where
  | ret (a : α)
  | no
  | slot (i : Nat) (g : AV → M α)
  | obj (id : Nat) (g : Option Ob → M α)
  | grd (b : Bool) (m : M α)
  | ite (b : Bool) (m n : M α)
def M.pure {α : Type} (a : α) : M α := .ret a
def M.bind {α β : Type} : M α → (α → M β) → M β
  | .ret a, f => f a
  | .no, _ => .no
  | .slot i g, f => .slot i fun v => (g v).bind f
  | .obj id g, f => .obj id fun v => (g v).bind f
  | .grd b m, f => .grd b (m.bind f)
  | .ite b m n, f => .ite b (m.bind f) (n.bind f)
def M.run {α : Type} : M α → (ρ : Type) → St → List Nat → (α → List Nat → Option ρ) → Option ρ
  | .ret a, _, _, L, k => k a L
  | .no, _, _, _, _ => none
  | .slot i g, ρ, S, L, k => (g (lkF S.fr i)).run ρ S ((2 * i) :: L) k
  | .obj id g, ρ, S, L, k => (g (lkH S.H id)).run ρ S ((2 * id + 1) :: L) k
  | .grd b m, ρ, S, L, k => bif b then m.run ρ S L k else none
  | .ite b m n, ρ, S, L, k => bif b then m.run ρ S L k else n.run ρ S L k
instance {α : Type} : CoeFun (M α) (fun _ => (ρ : Type) → St → List Nat → (α → List Nat → Option ρ) → Option ρ) := ⟨M.run⟩
instance : Monad M := { pure := M.pure, bind := M.bind }
def fail {α : Type} : M α := .no
def guardB (b : Bool) : M Unit := .grd b (.ret ())
def iteB {α : Type} (b : Bool) (m n : M α) : M α := .ite b m n
def rdS (i : Nat) : M AV := .slot i .ret
def rdO (id : Nat) : M (Option Ob) := .obj id .ret
def ofOpt {α : Type} : Option α → M α
  | some a => M.pure a
  | none => fail
structure Upd where
  val : AV
  obs : List (Nat × Ob)
def okInt (k : IntKind) (n : Int) : Bool := decide (k.min ≤ n) && decide (n ≤ k.max)
def constC : Value → C
  | .bool b => .v .bool b
  | .int k n => bif okInt k n then .v (.int k) n else .u
  | .string s => bif Nat.ble s.data.toList.length lim then .v .str s.data.toList else .u
  | .slice none 0 0 => .emp
  | _ => .u
def opd : Operand → M AV
  | .tmp t => rdS t
  | .const v => M.pure (.w (.one (constC v)))
  | .func f => M.pure (.w (.one (.fn f [])))
  | .global _ => fail
def asV1 : AV → M V1
  | .w v => M.pure v
  | .tup _ => fail
def asC : AV → M C
  | .w (.one c) => M.pure c
  | _ => fail
def V1.cells : V1 → List C
  | .one c => [c]
  | .agg cs => cs
def opC (x : Operand) : M C := do asC (← opd x)
def opV (x : Operand) : M V1 := do asV1 (← opd x)
def castT (t t' : Ty) (x : t'.den) : Option t.den := if h : t' = t then some (h ▸ x) else none
def packC (fz : Bool) (t : Ty) : C → M (t.den × List (Nat × Ob))
  | .v t' x => M.bind (ofOpt (castT t t' x)) fun x => M.pure (x, [])
  | .emp => match t with
    | .slice _ => M.pure ([], [])
    | _ => fail
  | .mt => match t with
    | .slice _ => M.pure ([], [])
    | _ => fail
  | .arr id => M.bind (rdO id) fun
    | some (.arr _ r xs) => M.bind (guardB (!(fz && isPar id))) fun _ => M.bind (ofOpt (castT t (.slice r) xs)) fun x => M.pure (x, bif fz then [(id, .imm r xs)] else [])
    | some (.arr _ r xs (.yes _)) => M.bind (guardB (!(fz && isPar id))) fun _ => M.bind (ofOpt (castT t (.slice r) xs)) fun x => M.pure (x, bif fz then [(id, .imm r xs)] else [])
    | some (.imm r xs) => M.bind (ofOpt (castT t (.slice r) xs)) fun x => M.pure (x, [])
    | _ => fail
  | _ => fail
def pack1 (fz : Bool) (t : Ty) : List C → M (t.den × List C × List (Nat × Ob))
  | [] => fail
  | c :: cs => M.bind (packC fz t c) fun p => M.pure (p.1, cs, p.2)
def pack (fz : Bool) : (t : Ty) → List C → M (t.den × List C × List (Nat × Ob))
  | .pair a b, cs => M.bind (pack fz a cs) fun p => M.bind (pack fz b p.2.1) fun q => M.pure ((p.1, q.1), q.2.1, q.2.2 ++ p.2.2)
  | .slice r, cs => pack1 fz (.slice r) cs
  | .bool, cs => pack1 fz .bool cs
  | .int k, cs => pack1 fz (.int k) cs
  | .str, cs => pack1 fz .str cs
def unpack : (t : Ty) → t.den → List C
  | .pair a b, x => unpack a x.1 ++ unpack b x.2
  | .bool, x => [.v .bool x]
  | .int k, x => [.v (.int k) x]
  | .str, x => [.v .str x]
  | .slice r, x => [.v (.slice r) x]
def asV (agg : Bool) (t : Ty) (x : t.den) : V1 := bif agg then .agg (unpack t x) else .one (.v t x)
def fldT : (t : Ty) → t.den → (n j : Nat) → Option Dv
  | t, x, n, 0 => bif Nat.ble n 1 then some ⟨t, x⟩ else match t, x with
    | .pair a _, x => some ⟨a, x.1⟩
    | _, _ => none
  | .pair _ b, x, n, j + 1 => fldT b x.2 (n - 1) j
  | _, _, _, _ + 1 => none
def offT : (t : Ty) → (n j : Nat) → Nat
  | _, _, 0 => 0
  | .pair a b, n, j + 1 => a.sz + offT b (n - 1) j
  | _, _, _ + 1 => 0
def projT : (t : Ty) → t.den → List (Nat × Nat) → Option Dv
  | t, x, [] => some ⟨t, x⟩
  | t, x, (n, j) :: p => match fldT t x n j with
    | some d => projT d.1 d.2 p
    | none => none
def fldTy : (t : Ty) → (n j : Nat) → Option Ty
  | t, n, 0 => bif Nat.ble n 1 then some t else match t with
    | .pair a _ => some a
    | _ => none
  | .pair _ b, n, j + 1 => fldTy b (n - 1) j
  | _, _, _ + 1 => none
def pathTy : Ty → List (Nat × Nat) → Option (Ty × Nat)
  | t, [] => some (t, 0)
  | t, (n, j) :: p => match fldTy t n j with
    | some t' => match pathTy t' p with
      | some (u, o) => some (u, offT t n j + o)
      | none => none
    | none => none
def setF : (t : Ty) → t.den → (n j : Nat) → Dv → Option t.den
  | t, x, n, 0, d => bif Nat.ble n 1 then castT t d.1 d.2 else match t, x with
    | .pair a b, x => match castT a d.1 d.2 with
      | some y => some (y, x.2)
      | none => none
    | _, _ => none
  | .pair a b, x, n, j + 1, d => match setF b x.2 (n - 1) j d with
    | some y => some (x.1, y)
    | none => none
  | _, _, _, _ + 1, _ => none
def setP : (t : Ty) → t.den → List (Nat × Nat) → Dv → Option t.den
  | t, _, [], d => castT t d.1 d.2
  | t, x, (n, j) :: p, d => match fldT t x n j with
    | some e => match setP e.1 e.2 p d with
      | some y => setF t x n j ⟨e.1, y⟩
      | none => none
    | none => none
def nsl : Ty → Nat
  | .pair a b => nsl a + nsl b
  | .slice _ => 1
  | _ => 0
def sliT : (t : Ty) → (n j : Nat) → Nat
  | _, _, 0 => 0
  | .pair a b, n, j + 1 => nsl a + sliT b (n - 1) j
  | _, _, _ + 1 => 0
def sliP : Ty → List (Nat × Nat) → Nat
  | _, [] => 0
  | t, (n, j) :: p => match fldTy t n j with
    | some t' => sliT t n j + sliP t' p
    | none => 0
def eAt (r : Ty) (p : List (Nat × Nat)) (ns : List Nat) : Option Nat := (ns.drop (sliP r p)).head?
def setRP (r : Ty) (xs : List r.den) (j : Int) (p : List (Nat × Nat)) (d : Dv) : Option (List r.den) := match setP r (xs.getD j.toNat r.dflt) p d with
  | some y => some (xs.set j.toNat y)
  | none => none
def optEq : Option Nat → Nat → Bool
  | some a, b => Nat.beq a b
  | none, _ => false
def closeP (id e : Nat) (r : Ty) (xs : List r.den) (ns : List Nat) (j : Int) (p : List (Nat × Nat)) (i : Nat) : Option Ob → Option (Ob × List (Nat × Ob))
  | some (.arr e2 r2 ys .no) => bif optEq (eAt r p ns) e2 && (!isPar i || isPar id) && !Nat.beq i id then match setRP r xs j p ⟨.slice r2, ys⟩ with
    | some zs => some (.arr e r zs (.yes ns), [(id, .arr e r zs (.yes ns)), (i, .gone)])
    | none => none else none
  | some (.imm r2 ys) => bif isPar id then none else match setRP r xs j p ⟨.slice r2, ys⟩ with
    | some zs => some (.arr e r zs, [(id, .arr e r zs)])
    | none => none
  | _ => none
def splice (cs : List C) (off : Nat) (ds : List C) : List C := cs.take off ++ (ds ++ cs.drop (off + ds.length))
def C.known : C → Bool
  | .u => false
  | .nd => false
  | _ => true
def Ty.flat : Ty → Bool
  | .slice _ => false
  | .pair a b => a.flat && b.flat
  | _ => true
def dstOf : Option Nat → M Nat
  | some d => M.pure d
  | none => fail
section ops
variable (TT : Nat → Option TD) (Φ : Nat → Option Summ)
def loadD (td : TD) (t : Ty) (x : t.den) : M V1 := M.bind (guardB (Nat.beq t.sz td.sz)) fun _ => M.pure (asV td.agg t x)
def closeM (id : Nat) : M (Option Ob × List (Nat × Ob)) := M.bind (rdO id) fun
  | some (.arr e r xs (.yes ns (some h))) => M.bind (rdO h.2.2) fun o => M.bind (ofOpt (closeP id e r xs ns h.1 h.2.1 h.2.2 o)) fun q => M.pure (some q.1, q.2)
  | o => M.pure (o, [])
def holeId (id d : Nat) : Nat := bif isPar id then 450000 + d else d
def openAt (dst : Option Nat) (td : TD) (id e : Nat) (r : Ty) (xs : List r.den) (ns : List Nat) (j : Int) (p : List (Nat × Nat)) : Dv → M (V1 × List (Nat × Ob))
  | ⟨.slice r2, ys⟩ => M.bind (dstOf dst) fun d => M.bind (guardB (Nat.blt d 50000 && (!td.agg && Nat.beq 1 td.sz))) fun _ => M.bind (rdO (holeId id d)) fun o => M.bind (guardB o.isNone) fun _ => M.bind (ofOpt (eAt r p ns)) fun e' => M.bind (ofOpt (setRP r xs j p ⟨.slice r2, []⟩)) fun zs =>
      M.pure (.one (.arr (holeId id d)), [(holeId id d, .arr e' r2 ys), (id, .arr e r zs (.yes ns (some (j, p, holeId id d))))])
  | d => M.bind (guardB (!isPar id)) fun _ => M.bind (loadD td d.1 d.2) fun v => M.pure (v, [(id, .arr e r xs)])
def loadAt (dst : Option Nat) (td : TD) : C → M (V1 × List (Nat × Ob))
  | .pb id off => M.bind (rdO id) fun
    | some (.box cs) => M.bind (guardB (Nat.ble (off + td.sz) cs.length)) fun _ =>
      match td.agg, (cs.drop off).take td.sz with
      | true, l => M.pure (.agg l, [])
      | false, [c] => M.pure (.one c, [])
      | false, _ => fail
    | _ => fail
  | .pd t x => M.bind (loadD td t x) fun v => M.pure (v, [])
  | .pa id j p => M.bind (closeM id) fun q => match q.1 with
    | some (.arr _ r xs) => M.bind (ofOpt (projT r (xs.getD j.toNat r.dflt) p)) fun d => M.bind (loadD td d.1 d.2) fun v => M.pure (v, q.2)
    | some (.arr e r xs (.yes ns)) => M.bind (ofOpt (projT r (xs.getD j.toNat r.dflt) p)) fun d => iteB d.1.flat (M.bind (loadD td d.1 d.2) fun v => M.pure (v, q.2))
        (M.bind (openAt dst td id e r xs ns j p d) fun v => M.pure (v.1, v.2 ++ q.2))
    | _ => fail
  | _ => fail
def ownM : (t : Ty) → List C → List Nat → M (Option (t.den × List C × List Nat × List Nat))
  | .pair a b, cs, es => M.bind (ownM a cs es) fun
    | none => M.pure none
    | some p => M.bind (ownM b p.2.1 p.2.2.1) fun
      | none => M.pure none
      | some q => M.pure (some ((p.1, q.1), q.2.1, q.2.2.1, p.2.2.2 ++ q.2.2.2))
  | .slice r, c :: cs, e :: es => match c with
    | .arr id => M.bind (rdO id) fun
      | some (.arr e' r' xs) => bif Nat.beq e' e && !isPar id then M.pure (match castT (.slice r) (.slice r') xs with | some x => some (x, cs, es, [id]) | none => none) else M.pure none
      | _ => M.pure none
    | .emp => M.pure (some ([], cs, es, []))
    | .mt => M.pure (some ([], cs, es, []))
    | _ => M.pure none
  | .slice _, _, _ => M.pure none
  | .bool, .v t' x :: cs, es => M.pure (match castT .bool t' x with | some x => some (x, cs, es, []) | none => none)
  | .int k, .v t' x :: cs, es => M.pure (match castT (.int k) t' x with | some x => some (x, cs, es, []) | none => none)
  | .str, .v t' x :: cs, es => M.pure (match castT .str t' x with | some x => some (x, cs, es, []) | none => none)
  | _, _, _ => M.pure none
def nodupN' : List Nat → Bool
  | [] => true
  | i :: l => !(l.any fun j => Nat.beq j i) && nodupN' l
def storeD (td : TD) (id e : Nat) (r : Ty) (xs : List r.den) (ns : List Nat) (j : Int) (p : List (Nat × Nat)) (v : V1) : M Upd :=
  M.bind (ofOpt (projT r (xs.getD j.toNat r.dflt) p)) fun d => M.bind (guardB (Nat.beq d.1.sz td.sz)) fun _ => M.bind (ownM d.1 v.cells (ns.drop (sliP r p))) fun
    | some q => M.bind (guardB (isEmpC q.2.1 && (nodupN' (id :: q.2.2.2)))) fun _ => M.bind (ofOpt (setRP r xs j p ⟨d.1, q.1⟩)) fun zs =>
        M.pure ⟨.w (.one .u), (id, .arr e r zs (.yes ns)) :: q.2.2.2.map fun i => (i, Ob.gone)⟩
    | none => M.bind (pack true d.1 v.cells) fun q => M.bind (ofOpt (setRP r xs j p ⟨d.1, q.1⟩)) fun zs => M.bind (guardB (!isPar id && q.2.2.all fun z => !Nat.beq z.1 id)) fun _ =>
        M.pure ⟨.w (.one .u), (id, .arr e r zs) :: q.2.2⟩
 where isEmpC : List C → Bool
  | [] => true
  | _ :: _ => false
def storeF (td : TD) (id e : Nat) (r : Ty) (xs : List r.den) (ns : List Nat) (j : Int) (p : List (Nat × Nat)) (v : V1) : M Upd :=
  M.bind (ofOpt (projT r (xs.getD j.toNat r.dflt) p)) fun d => M.bind (guardB (Nat.beq d.1.sz td.sz && d.1.flat)) fun _ => M.bind (pack false d.1 v.cells) fun q =>
      M.bind (ofOpt (setP r (xs.getD j.toNat r.dflt) p ⟨d.1, q.1⟩)) fun y => M.pure ⟨.w (.one .u), [(id, .arr e r (xs.set j.toNat y) (.yes ns))]⟩
def flatAt (r : Ty) (p : List (Nat × Nat)) : Bool := match pathTy r p with
  | some q => q.1.flat
  | none => false
def storeAt (td : TD) (p : C) (v : V1) : M Upd := M.bind (guardB (Nat.beq v.cells.length td.sz && v.cells.all C.known)) fun _ =>
  match p with
  | .pb id off => M.bind (rdO id) fun
    | some (.box cs) => M.bind (guardB (Nat.ble (off + td.sz) cs.length)) fun _ => M.pure ⟨.w (.one .u), [(id, .box (splice cs off v.cells))]⟩
    | _ => fail
  | .pa id j p => M.bind (rdO id) fun
    | some (.arr e r xs) => M.bind (ofOpt (projT r (xs.getD j.toNat r.dflt) p)) fun d => M.bind (guardB (Nat.beq d.1.sz td.sz)) fun _ => M.bind (pack true d.1 v.cells) fun q =>
      M.bind (ofOpt (setP r (xs.getD j.toNat r.dflt) p ⟨d.1, q.1⟩)) fun y => M.bind (guardB (q.2.2.all fun z => !Nat.beq z.1 id)) fun _ =>
        M.pure ⟨.w (.one .u), (id, .arr e r (xs.set j.toNat y)) :: q.2.2⟩
    | some (.arr e r xs (.yes ns)) => iteB (flatAt r p) (storeF td id e r xs ns j p v) (storeD td id e r xs ns j p v)
    | some (.arr e r xs (.yes ns (some h))) => iteB (flatAt r p)
        (M.bind (closeM id) fun q => match q.1 with
          | some (.arr e r xs (.yes ns)) => M.bind (storeF td id e r xs ns j p v) fun U => M.pure ⟨U.val, U.obs ++ q.2⟩
          | _ => fail)
        (M.bind (guardB (decide (h.1 = j) && decide (h.2.1 = p))) fun _ => storeD td id e r xs ns j p v)
    | _ => fail
  | _ => fail
def fieldAddrAt (td : TD) (p : C) (j : Nat) : M C := M.bind (ofOpt td.flds[j]?) fun f =>
  match p with
  | .pb id off => M.pure (.pb id (off + f.2))
  | .pd t x => M.bind (ofOpt (fldT t x td.flds.length j)) fun d => M.bind (guardB (Nat.beq (offT t td.flds.length j) f.2)) fun _ => M.pure (.pd d.1 d.2)
  | .pa id i p => M.bind (rdO id) fun
    | some (.arr _ r xs _) => M.bind (ofOpt (projT r (xs.getD i.toNat r.dflt) p)) fun d => M.bind (ofOpt (fldT d.1 d.2 td.flds.length j)) fun _ =>
      M.bind (guardB (Nat.beq (offT d.1 td.flds.length j) f.2)) fun _ => M.pure (.pa id i (p ++ [(td.flds.length, j)]))
    | _ => fail
  | _ => fail
def inRange (i : Int) (n : Nat) : M Unit := M.bind (guardB (decide (0 ≤ i))) fun _ => guardB (decide (i < (n : Int)))
def indexAddrAt (td : TD) (x : C) (i : Int) : M C := match x with
  | .v (.slice r) xs => M.bind (inRange i xs.length) fun _ => M.bind (guardB (Nat.beq r.sz td.sz)) fun _ => M.pure (.pd r (xs.getD i.toNat r.dflt))
  | .arr id => M.bind (rdO id) fun
    | some (.arr _ r xs _) => M.bind (inRange i xs.length) fun _ => M.bind (guardB (Nat.beq r.sz td.sz)) fun _ => M.pure (.pa id i [])
    | some (.imm r xs) => M.bind (inRange i xs.length) fun _ => M.bind (guardB (Nat.beq r.sz td.sz)) fun _ => M.pure (.pd r (xs.getD i.toNat r.dflt))
    | _ => fail
  | _ => fail
def sliceOf (x : C) : M (Sigma (fun r : Ty => List r.den) × List (Nat × Ob)) := match x with
  | .v (.slice r) xs => M.pure (⟨r, xs⟩, [])
  | .arr id => M.bind (rdO id) fun
    | some (.arr _ r xs) => M.bind (guardB (!isPar id)) fun _ => M.pure (⟨r, xs⟩, [(id, .imm r xs)])
    | some (.arr _ r xs (.yes _)) => M.bind (guardB (!isPar id)) fun _ => M.pure (⟨r, xs⟩, [(id, .imm r xs)])
    | some (.imm r xs) => M.pure (⟨r, xs⟩, [])
    | _ => fail
  | _ => fail
def rowsOf (x : C) : M (Option (Sigma (fun r : Ty => List r.den))) := match x with
  | .v (.slice r) xs => M.pure (some ⟨r, xs⟩)
  | .emp => M.pure none
  | .arr id => M.bind (rdO id) fun
    | some (.arr _ r xs) => M.pure (some ⟨r, xs⟩)
    | some (.imm r xs) => M.pure (some ⟨r, xs⟩)
    | _ => fail
  | _ => fail
def optInt (x : Option Operand) (d : Int) : M Int := match x with
  | none => M.pure d
  | some o => M.bind (opC o) fun
    | .v (.int _) n => M.pure n
    | _ => fail
def sliceStep3 (x : Operand) (lo hi mx : Option Operand) : M Upd := M.bind (opC x) fun c => M.bind (optInt lo 0) fun l => M.bind (optInt hi 1) fun h => M.bind (optInt mx 1) fun m => M.bind (guardB (decide (l = 0) && (decide (h = 0) && decide (m = 0)))) fun _ => match c with
  | .v (.slice _) _ => M.pure ⟨.w (.one .mt), []⟩
  | .emp => M.pure ⟨.w (.one .mt), []⟩
  | .mt => M.pure ⟨.w (.one .mt), []⟩
  | .arr _ => M.pure ⟨.w (.one .mt), []⟩
  | _ => fail
def sliceStep (sl : Bool) (td : TD) (x : Operand) (lo hi mx : Option Operand) : M Upd := M.bind (guardB mx.isNone) fun _ => M.bind (opC x) fun
  | .v .str s => M.bind (guardB !sl) fun _ => M.bind (optInt lo 0) fun l => M.bind (optInt hi s.length) fun h => M.bind (guardB (decide (0 ≤ l))) fun _ => M.bind (guardB (decide (l ≤ h))) fun _ => M.bind (guardB (decide (h ≤ (s.length : Int)))) fun _ =>
      M.pure ⟨.w (.one (.v .str ((s.take h.toNat).drop l.toNat))), []⟩
  | x => M.bind (guardB sl) fun _ => M.bind (sliceOf x) fun p => M.bind (guardB (Nat.beq p.1.1.sz td.sz)) fun _ => M.bind (optInt lo 0) fun l => M.bind (optInt hi p.1.2.length) fun h => M.bind (guardB (decide (0 ≤ l))) fun _ => M.bind (guardB (decide (l ≤ h))) fun _ =>
      M.bind (guardB (decide (h ≤ (p.1.2.length : Int)))) fun _ => M.pure ⟨.w (.one (.v (.slice p.1.1) ((p.1.2.take h.toNat).drop l.toNat))), p.2⟩
def indexStep (x i : Operand) : M Upd := M.bind (opC x) fun
  | .v .str s => M.bind (opC i) fun
    | .v (.int _) n => M.bind (inRange n s.length) fun _ => M.pure ⟨.w (.one (.v (.int .u8) ((s.getD n.toNat 0).toNat : Int))), []⟩
    | _ => fail
  | _ => fail
def lenOf (x : C) : M Nat := match x with
  | .v (.slice _) xs => M.pure xs.length
  | .emp => M.pure 0
  | .mt => M.pure 0
  | .arr id => M.bind (rdO id) fun
    | some (.arr _ _ xs _) => M.pure xs.length
    | some (.imm _ xs) => M.pure xs.length
    | _ => fail
  | _ => fail
def lenStep (sl : Bool) (x : Operand) : M Upd := M.bind (opC x) fun
  | .v .str s => M.bind (guardB !sl) fun _ => M.pure ⟨.w (.one (.v (.int .i64) (s.length : Int))), []⟩
  | x => M.bind (guardB sl) fun _ => M.bind (lenOf x) fun n => M.pure ⟨.w (.one (.v (.int .i64) (n : Int))), []⟩
def deepOf (e : Nat) (td : TD) : C → M (Option (List td.ty.den × List Nat))
  | .emp => M.pure (some ([], []))
  | .mt => M.pure (some ([], []))
  | .arr id => M.bind (rdO id) fun
    | some (.arr e' r xs (.yes ns)) => bif Nat.beq e' e && (decide (ns = td.ns) && !isPar id) then M.pure (match castT (.slice td.ty) (.slice r) xs with | some x => some (x, [id]) | none => none) else M.pure none
    | _ => M.pure none
  | _ => M.pure none
def prepX : C → M (List (Nat × Ob))
  | .arr id => M.bind (rdO id) fun
    | some (.arr e r xs (.yes _)) => M.bind (guardB (!isPar id)) fun _ => M.pure [(id, .arr e r xs)]
    | _ => M.pure []
  | _ => M.pure []
def prepY : C → M (List (Nat × Ob))
  | .arr id => M.bind (rdO id) fun
    | some (.arr _ r xs (.yes _)) => M.bind (guardB (!isPar id)) fun _ => M.pure [(id, .imm r xs)]
    | _ => M.pure []
  | _ => M.pure []
def headOf (e : Nat) (td : TD) : C → M (Option (List td.ty.den × List Nat))
  | .emp => M.pure (some ([], []))
  | .mt => M.pure (some ([], []))
  | .arr id => M.bind (rdO id) fun
    | some (.arr e' r xs d) => bif Nat.beq e' e && (!isPar id && d.rd) then M.pure (match castT (.slice td.ty) (.slice r) xs with | some x => some (x, [id]) | none => none) else M.pure none
    | _ => M.pure none
  | _ => M.pure none
def tailOf (td : TD) : C → M (Option (List td.ty.den))
  | .v (.slice r) xs => M.pure (castT (.slice td.ty) (.slice r) xs)
  | .emp => M.pure (some [])
  | .mt => M.pure (some [])
  | .arr id => M.bind (rdO id) fun
    | some (.arr _ r xs d) => bif d.rd then M.pure (castT (.slice td.ty) (.slice r) xs) else M.pure none
    | some (.imm r xs) => M.pure (castT (.slice td.ty) (.slice r) xs)
    | _ => M.pure none
  | _ => M.pure none
def appendFlat (dst : Nat) (e : Nat) (td : TD) (cx cy : C) : M Upd := M.bind (prepX cx) fun ox => M.bind (prepY cy) fun oy => M.bind (headOf e td cx) fun px => M.bind (ofOpt px) fun xs => M.bind (tailOf td cy) fun py => M.bind (ofOpt py) fun ys =>
  M.bind (guardB (decide ((xs.1.length + ys.length) * td.bytes ≤ lim))) fun _ => M.bind (guardB (Nat.ble 1 td.bytes && (td.dat && nodupN' ((ox ++ oy).map (·.1))))) fun _ =>
    M.pure ⟨.w (.one (.arr dst)), ((dst, .arr e td.ty (xs.1 ++ ys)) :: xs.2.map fun i => (i, Ob.gone)) ++ (oy ++ ox)⟩
def appendStep (dst : Nat) (e : Nat) (td : TD) (x y : Operand) : M Upd := M.bind (opC x) fun cx => M.bind (opC y) fun cy => M.bind (rdO dst) fun o => M.bind (guardB o.isNone) fun _ =>
  match td.ns with
  | [] => appendFlat dst e td cx cy
  | _ :: _ => M.bind (deepOf e td cx) fun px => M.bind (deepOf e td cy) fun py => match px, py with
    | some xs, some ys => M.bind (guardB (decide ((xs.1.length + ys.1.length) * td.bytes ≤ lim))) fun _ => M.bind (guardB (Nat.ble 1 td.bytes && (td.dat && nodupN' (xs.2 ++ ys.2)))) fun _ =>
        M.pure ⟨.w (.one (.arr dst)), (dst, .arr e td.ty (xs.1 ++ ys.1) (.yes td.ns)) :: (xs.2 ++ ys.2).map fun i => (i, Ob.gone)⟩
    | _, _ => appendFlat dst e td cx cy
def makeStep (dst : Nat) (e : Nat) (td : TD) (l c : Operand) : M Upd := M.bind (opC l) fun cl => M.bind (opC c) fun cc => M.bind (rdO dst) fun o => M.bind (guardB o.isNone) fun _ =>
  match cl, cc with
  | .v (.int .i64) n, .v (.int .i64) m => M.bind (guardB (decide (n = m))) fun _ => M.bind (guardB (decide (0 ≤ n))) fun _ => M.bind (guardB (decide (n.toNat * td.bytes ≤ lim) && (Nat.ble 1 td.bytes && td.dat))) fun _ =>
      M.pure ⟨.w (.one (.arr dst)), [(dst, .arr e td.ty (List.replicate n.toNat td.ty.dflt) td.dp)]⟩
  | _, _ => fail
def packAll (fz : Bool) (t : Ty) : List V1 → M (List t.den × List (Nat × Ob))
  | [] => M.pure ([], [])
  | v :: vs => M.bind (pack fz t v.cells) fun p => match p.2.1 with
    | [] => M.bind (packAll fz t vs) fun q => M.pure (p.1 :: q.1, q.2 ++ p.2.2)
    | _ => fail
def opVs : List Operand → M (List V1)
  | [] => M.pure []
  | x :: xs => M.bind (opV x) fun v => M.bind (opVs xs) fun vs => M.pure (v :: vs)
def inOrder : Nat → List (Nat × Operand) → Bool
  | _, [] => true
  | i, p :: ps => Nat.beq p.1 i && inOrder (i + 1) ps
def ownAll (t : Ty) (ns : List Nat) : List V1 → M (Option (List t.den × List Nat))
  | [] => M.pure (some ([], []))
  | v :: vs => M.bind (ownM t v.cells ns) fun
    | some p => match p.2.1, p.2.2.1 with
      | [], [] => M.bind (ownAll t ns vs) fun
        | some q => M.pure (some (p.1 :: q.1, p.2.2.2 ++ q.2))
        | none => M.pure none
      | _, _ => M.pure none
    | none => M.pure none
def buildSliceStep (dst : Nat) (e : Nat) (td : TD) (len : Nat) (parts : List (Nat × Operand)) : M Upd :=
  M.bind (guardB (Nat.beq parts.length len && (inOrder 0 parts && (Nat.ble (len * td.sz) 16777216 && td.dat)))) fun _ => M.bind (opVs (parts.map (·.2))) fun vs => M.bind (guardB (vs.all fun v => v.cells.all C.known)) fun _ => M.bind (rdO dst) fun o => M.bind (guardB o.isNone) fun _ =>
    match td.ns with
    | [] => M.bind (packAll true td.ty vs) fun q => M.pure ⟨.w (.one (.arr dst)), (dst, .arr e td.ty q.1) :: q.2⟩
    | _ :: _ => M.bind (ownAll td.ty td.ns vs) fun
      | some q => M.bind (guardB (nodupN' q.2)) fun _ => M.pure ⟨.w (.one (.arr dst)), (dst, .arr e td.ty q.1 (.yes td.ns)) :: q.2.map fun i => (i, Ob.gone)⟩
      | none => M.bind (packAll true td.ty vs) fun q => M.pure ⟨.w (.one (.arr dst)), (dst, .arr e td.ty q.1) :: q.2⟩
def fillC (flds : List (Nat × Nat)) (TT : Nat → Option TD) : List C → List (Nat × V1) → Option (List C)
  | cs, [] => some cs
  | cs, (j, v) :: ps => match flds[j]? with
    | some f => match TT f.1 with
      | some td => bif Nat.beq v.cells.length td.sz && Nat.ble (f.2 + td.sz) cs.length && v.cells.all C.known then fillC flds TT (splice cs f.2 v.cells) ps else none
      | none => none
    | none => none
def intOp (op : BinOp) (k : IntKind) (x y : Int) : Option C := match op with
  | .add => some (.v (.int k) (k.wrap (x + y)))
  | .sub => some (.v (.int k) (k.wrap (x - y)))
  | .mul => some (.v (.int k) (k.wrap (x * y)))
  | .eql => some (.v .bool (x == y))
  | .neq => some (.v .bool (x != y))
  | .lss => some (.v .bool (decide (x < y)))
  | .leq => some (.v .bool (decide (x ≤ y)))
  | .gtr => some (.v .bool (decide (x > y)))
  | .geq => some (.v .bool (decide (x ≥ y)))
  | .xor => some (.v (.int k) (k.wrap (BitVec.ofInt k.bits x ^^^ BitVec.ofInt k.bits y).toNat))
  | _ => none
def eqCells : List Ty → List C → List C → Option Bool
  | [], [], [] => some true
  | .bool :: ts, .v .bool x :: cs, .v .bool y :: ds => (eqCells ts cs ds).map fun b => (x == y) && b
  | .int k :: ts, .v (.int i) x :: cs, .v (.int j) y :: ds => bif decide (i = k) && decide (j = k) then (eqCells ts cs ds).map fun b => (x == y) && b else none
  | .str :: ts, .v .str x :: cs, .v .str y :: ds => (eqCells ts cs ds).map fun b => (x == y) && b
  | _, _, _ => none
def binStep (op : BinOp) (t : Nat) (x y : Operand) : M Upd := M.bind (opV x) fun vx => M.bind (opV y) fun vy =>
  match vx, vy with
  | .one (.v (.int j) a), .one (.v (.int k) b) => M.bind (guardB (decide (j = k))) fun _ => match op with
    | .quo => M.bind (guardB (!decide (b = 0))) fun _ => M.pure ⟨.w (.one (.v (.int j) (j.wrap (a.tdiv b)))), []⟩
    | .rem => M.bind (guardB (!decide (b = 0))) fun _ => M.pure ⟨.w (.one (.v (.int j) (a.tmod b))), []⟩
    | op => M.bind (ofOpt (intOp op j a b)) fun c => M.pure ⟨.w (.one c), []⟩
  | .one (.v .str a), .one (.v .str b) => match op with
    | .add => M.bind (guardB (decide (a.length + b.length ≤ lim))) fun _ => M.pure ⟨.w (.one (.v .str (a ++ b))), []⟩
    | .eql => M.pure ⟨.w (.one (.v .bool (a == b))), []⟩
    | .neq => M.pure ⟨.w (.one (.v .bool !(a == b))), []⟩
    | .lss => M.pure ⟨.w (.one (.v .bool (Op.bytesLess a b))), []⟩
    | .leq => M.pure ⟨.w (.one (.v .bool (Op.bytesLess a b || a == b))), []⟩
    | .gtr => M.pure ⟨.w (.one (.v .bool !(Op.bytesLess a b || a == b))), []⟩
    | .geq => M.pure ⟨.w (.one (.v .bool !(Op.bytesLess a b))), []⟩
    | _ => fail
  | .one (.v .bool a), .one (.v .bool b) => M.bind (ofOpt (TT t)) fun td => match td.ty, op with
    | .bool, .eql => M.pure ⟨.w (.one (.v .bool (a == b))), []⟩
    | .bool, .neq => M.pure ⟨.w (.one (.v .bool !(a == b))), []⟩
    | _, _ => fail
  | .agg as, .agg bs => M.bind (ofOpt (TT t)) fun td => M.bind (guardB (!td.eqs.isEmpty)) fun _ => M.bind (ofOpt (eqCells td.eqs as bs)) fun b => match op with
    | .eql => M.pure ⟨.w (.one (.v .bool b)), []⟩
    | .neq => M.pure ⟨.w (.one (.v .bool !b)), []⟩
    | _ => fail
  | _, _ => fail
def unStep (op : UnOp) (x : Operand) : M Upd := M.bind (opC x) fun
  | .v .bool b => match op with
    | .not => M.pure ⟨.w (.one (.v .bool !b)), []⟩
    | _ => fail
  | .v (.int k) n => match op with
    | .neg => M.pure ⟨.w (.one (.v (.int k) (k.wrap (0 - n)))), []⟩
    | _ => fail
  | _ => fail
def byteOf (n : Int) : UInt8 := UInt8.ofNat n.toNat
def convStep (src dst : Nat) (x : Operand) : M Upd := M.bind (ofOpt (TT src)) fun tds => M.bind (ofOpt (TT dst)) fun tdd => M.bind (opC x) fun c =>
  match tds.ty, tdd.ty, c with
  | .int _, .int k, .v (.int _) n => M.pure ⟨.w (.one (.v (.int k) (k.wrap n))), []⟩
  | .slice (.int .u8), .str, c => M.bind (ofOpt (TT tds.elem)) fun te => M.bind (rowsOf c) fun
    | some ⟨.int .u8, xs⟩ => match te.ty with
      | .int .u8 => M.pure ⟨.w (.one (.v .str (xs.map byteOf))), []⟩
      | _ => fail
    | none => match te.ty with
      | .int .u8 => M.pure ⟨.w (.one (.v .str [])), []⟩
      | _ => fail
    | _ => fail
  | _, _, _ => fail
inductive Hd where
  | bx (t : Ty)
  | ow (e : Nat) (r : Ty) (o : Option (List Nat))
  | mv (e : Nat) (r : Ty) (o : Option (List Nat))
def isMv : Hd → Bool
  | .mv _ _ _ => true
  | _ => false
def entOf : List (Nat × Hd) → List Nat
  | [] => []
  | (i, h) :: l => bif isMv h then entOf l else i :: entOf l
def dpEq : Dp → Option (List Nat) → Bool
  | .no, none => true
  | .yes ns none, some ms => decide (ns = ms)
  | _, _ => false
def args1 (fz : Bool) : List PS → List AV → M (List Dv × List (Nat × Hd) × List (Nat × Ob))
  | [], [] => M.pure ([], [], [])
  | .d t agg :: ps, .w v :: vs => match agg, v with
    | true, .agg cs => M.bind (pack fz t cs) fun q => match q.2.1 with
      | [] => M.bind (args1 fz ps vs) fun z => M.pure (⟨t, q.1⟩ :: z.1, z.2.1, z.2.2 ++ q.2.2)
      | _ => fail
    | false, .one c => M.bind (pack fz t [c]) fun q => match q.2.1 with
      | [] => M.bind (args1 fz ps vs) fun z => M.pure (⟨t, q.1⟩ :: z.1, z.2.1, z.2.2 ++ q.2.2)
      | _ => fail
    | _, _ => fail
  | .bx t :: ps, .w (.one (.pb id 0)) :: vs => M.bind (rdO id) fun
    | some (.box cs) => M.bind (pack fz t cs) fun q => match q.2.1 with
      | [] => M.bind (args1 fz ps vs) fun z => M.pure (⟨t, q.1⟩ :: z.1, (id, .bx t) :: z.2.1, z.2.2 ++ q.2.2)
      | _ => fail
    | _ => fail
  | .ow e r o :: ps, .w (.one (.arr id)) :: vs => M.bind (rdO id) fun
    | some (.arr e' r' xs d) => M.bind (guardB (Nat.beq e' e && dpEq d o)) fun _ => M.bind (ofOpt (castT (.slice r) (.slice r') xs)) fun x => M.bind (args1 fz ps vs) fun z => M.pure (⟨.slice r, x⟩ :: z.1, (id, .ow e r o) :: z.2.1, z.2.2)
    | _ => fail
  | .mv e r o :: ps, .w (.one (.arr id)) :: vs => M.bind (rdO id) fun
    | some (.arr e' r' xs d) => M.bind (guardB (Nat.beq e' e && (dpEq d o && !isPar id))) fun _ => M.bind (ofOpt (castT (.slice r) (.slice r') xs)) fun x => M.bind (args1 fz ps vs) fun z => M.pure (⟨.slice r, x⟩ :: z.1, (id, .mv e r o) :: z.2.1, z.2.2)
    | _ => fail
  | _, _ => fail
def ownC : (t : Ty) → t.den → (es : List (Nat × Option (List Nat))) → (id : Nat) → List C × List (Nat × Ob) × List (Nat × Option (List Nat)) × Nat
  | .pair a b, x, es, id => let p := ownC a x.1 es id; let q := ownC b x.2 p.2.2.1 p.2.2.2; (p.1 ++ q.1, q.2.1 ++ p.2.1, q.2.2.1, q.2.2.2)
  | .slice r, x, e :: es, id => ([.arr id], [(id, .arr e.1 r x (dpO e.2))], es, id + 1)
  | t, x, es, id => (unpack t x, [], es, id)
def results1 : List RS → List Dv → Nat → Option (List V1 × List (Nat × Ob) × List Dv × Nat)
  | [], ds, id => some ([], [], ds, id)
  | .any :: rs, ds, id => match results1 rs ds id with
    | some z => some (.one .u :: z.1, z.2)
    | none => none
  | .d t agg :: rs, d :: ds, id => match castT t d.1 d.2, results1 rs ds id with
    | some x, some z => some (asV agg t x :: z.1, z.2)
    | _, _ => none
  | .own t agg es :: rs, d :: ds, id => match castT t d.1 d.2 with
    | some x => match ownC t x es id with
      | (cs, obs, _, id') => match results1 rs ds id', agg, cs with
        | some z, true, cs => some (.agg cs :: z.1, z.2.1 ++ obs, z.2.2)
        | some z, false, [c] => some (.one c :: z.1, z.2.1 ++ obs, z.2.2)
        | _, _, _ => none
    | none => none
  | _, _, _ => none
def boxes1 : List (Nat × Hd) → List Dv → Option (List (Nat × Ob))
  | [], [] => some []
  | (id, .bx t) :: bs, d :: ds => match castT t d.1 d.2, boxes1 bs ds with
    | some x, some z => some ((id, .box (unpack t x)) :: z)
    | _, _ => none
  | (id, .ow e r o) :: bs, d :: ds => match castT (.slice r) d.1 d.2, boxes1 bs ds with
    | some x, some z => some ((id, .arr e r x (dpO o)) :: z)
    | _, _ => none
  | (id, .mv _ _ _) :: bs, ds => match boxes1 bs ds with
    | some z => some ((id, .gone) :: z)
    | none => none
  | _, _ => none
def tupV : List V1 → AV
  | [v] => .w v
  | vs => .tup vs
def callId (dst : Nat) : Nat := 1000 + 64 * dst
def freshAll : List (Nat × Ob) → M Unit
  | [] => M.pure ()
  | p :: ps => M.bind (rdO p.1) fun o => M.bind (guardB o.isNone) fun _ => freshAll ps
def Ty.flat1 : Ty → Bool
  | .slice r => r.flat
  | .pair a b => a.flat1 && b.flat1
  | _ => true
def selfT : Ty → List (Nat × Option (List Nat)) → Option (List (Nat × Option (List Nat)))
  | .pair a b, es => match selfT a es with
    | some es1 => selfT b es1
    | none => none
  | .slice r, e :: es => match e.2 with
    | none => bif r.flat then some es else none
    | some _ => bif r.flat1 then some es else none
  | .slice _, [] => none
  | _, es => some es
def RS.flat : RS → Bool
  | .d t _ => t.flat
  | .own t _ es => (selfT t es).isSome
  | .any => true
def capC (id : Nat) : AV := .w (.one (.pb id 0))
def flatP : List PS → List PS
  | [] => []
  | .cl _ ts :: ps => ts.map PS.bx ++ flatP ps
  | .d t a :: ps => .d t a :: flatP ps
  | .bx t :: ps => .bx t :: flatP ps
  | .ow e r o :: ps => .ow e r o :: flatP ps
  | .mv e r o :: ps => .mv e r o :: flatP ps
  | .sp l :: ps => l.map SP.ps ++ flatP ps
def flatA : List PS → List AV → Option (List AV)
  | [], [] => some []
  | .cl g ts :: ps, v :: vs => match v with
    | .w (.one (.fn g' caps)) => bif Nat.beq g' g && Nat.beq caps.length ts.length then match flatA ps vs with
      | some z => some (caps.map capC ++ z)
      | none => none else none
    | _ => none
  | .d _ _ :: ps, v :: vs => match flatA ps vs with
    | some z => some (v :: z)
    | none => none
  | .bx _ :: ps, v :: vs => match flatA ps vs with
    | some z => some (v :: z)
    | none => none
  | .ow _ _ _ :: ps, v :: vs => match flatA ps vs with
    | some z => some (v :: z)
    | none => none
  | .mv _ _ _ :: ps, v :: vs => match flatA ps vs with
    | some z => some (v :: z)
    | none => none
  | .sp l :: ps, v :: vs => match v with
    | .w (.agg cs) => bif Nat.beq cs.length l.length then match flatA ps vs with
      | some z => some (cs.map (fun c => AV.w (.one c)) ++ z)
      | none => none else none
    | _ => none
  | _, _ => none
def keyOf (g : Nat) : List AV → Nat
  | [] => g
  | v :: vs => match v with
    | .w (.one (.fn c _)) => g + 100000 * (c + 1)
    | _ => keyOf g vs
def phiK (Φ : Nat → Option Summ) (g : Nat) (vs : List AV) : Option Summ := bif Nat.blt g 100000 then Φ (keyOf g vs) else none
def noTwo (l : List (Nat × Hd)) (obs : List (Nat × Ob)) : Bool := l.all fun p => obs.all fun q => !Nat.beq q.1 p.1
def summStep (s : Summ) (dst : Nat) (vs : List AV) : M Upd := M.bind (ofOpt (flatA s.ps vs)) fun vs => M.bind (args1 s.fz (flatP s.ps) vs) fun z => M.bind (guardB (s.pre z.1)) fun _ => M.bind (guardB ((s.fz || (s.rs.all RS.flat && z.2.1.isEmpty)) && nodupN' (z.2.1.map (·.1)) && noTwo z.2.1 z.2.2)) fun _ =>
  M.bind (ofOpt (results1 s.rs (s.out z.1) (callId dst))) fun r => M.bind (guardB (nodupN' (r.2.1.map (·.1)))) fun _ => M.bind (ofOpt (boxes1 z.2.1 r.2.2.1)) fun b => M.bind (freshAll r.2.1) fun _ =>
    M.pure ⟨tupV r.1, b ++ (r.2.1 ++ z.2.2)⟩
def opAs : List Operand → M (List AV)
  | [] => M.pure []
  | x :: xs => M.bind (opd x) fun v => M.bind (opAs xs) fun vs => M.pure (v :: vs)
def calleeOf (f : Operand) (args : List Operand) : M (Nat × List AV) := M.bind (opC f) fun
  | .fn g caps => M.bind (opAs args) fun vs => M.pure (g, vs ++ caps.map capC)
  | _ => fail
def pbIds : List Operand → M (List Nat)
  | [] => M.pure []
  | x :: xs => M.bind (opC x) fun
    | .pb id 0 => M.bind (pbIds xs) fun l => M.pure (id :: l)
    | _ => fail
def val (c : C) : M Upd := M.pure ⟨.w (.one c), []⟩
def elemOf (td : TD) : M TD := match td.ty with
  | .slice _ => ofOpt (TT td.elem)
  | _ => fail
def step (o : Oper) : M Upd := match o.op with
  | .move x | .assign x => M.bind (opd x) fun v => M.pure ⟨v, []⟩
  | .pick c a b => M.bind (opC c) fun
    | .v .bool t => iteB t (M.bind (opd a) fun v => M.pure ⟨v, []⟩) (M.bind (opd b) fun v => M.pure ⟨v, []⟩)
    | _ => fail
  | .alloc t => M.bind (dstOf o.dst) fun d => M.bind (ofOpt (TT t)) fun td => M.bind (rdO d) fun ob => M.bind (guardB ob.isNone) fun _ => M.pure ⟨.w (.one (.pb d 0)), [(d, .box td.zero)]⟩
  | .box t x => M.bind (dstOf o.dst) fun d => M.bind (opV x) fun v => M.bind (guardB (v.cells.all C.known)) fun _ => M.bind (rdO d) fun ob => M.bind (guardB ob.isNone) fun _ => M.pure ⟨.w (.one (.pb d 0)), [(d, .box v.cells)]⟩
  | .build t parts => M.bind (ofOpt (TT t)) fun td => M.bind (guardB td.agg) fun _ => M.bind (opVs (parts.toList.map (·.2))) fun vs => M.bind (ofOpt (fillC td.flds TT td.zero ((parts.toList.map (·.1)).zip vs))) fun cs => M.pure ⟨.w (.agg cs), []⟩
  | .buildSlice t len parts => M.bind (dstOf o.dst) fun d => M.bind (ofOpt (TT t)) fun td => M.bind (elemOf TT td) fun te => buildSliceStep d td.elem te len parts.toList
  | .load t a => M.bind (ofOpt (TT t)) fun td => M.bind (opC a) fun p => M.bind (loadAt o.dst td p) fun v => M.pure ⟨.w v.1, v.2⟩
  | .store t a x => M.bind (ofOpt (TT t)) fun td => M.bind (opC a) fun p => M.bind (opV x) fun v => storeAt td p v
  | .nilCheck x => M.bind (opC x) fun
    | .pb id off => val (.pb id off)
    | .pd t d => val (.pd t d)
    | .pa id j p => val (.pa id j p)
    | _ => fail
  | .binOp op t x y _ => binStep TT op t x y
  | .unOp op _ x => unStep op x
  | .convert s d x => convStep TT s d x
  | .makeFunc (.func g) first caps => M.bind (guardB first.isEmpty) fun _ => M.bind (pbIds caps.toList) fun l => val (.fn g l)
  | .makeSlice t l c => M.bind (dstOf o.dst) fun d => M.bind (ofOpt (TT t)) fun td => M.bind (elemOf TT td) fun te => makeStep d td.elem te l c
  | .slice t x lo hi mx => M.bind (ofOpt (TT t)) fun td => match td.ty with
    | .slice _ => M.bind (ofOpt (TT td.elem)) fun te => match mx with
      | none => sliceStep true te x lo hi none
      | some m => sliceStep3 x lo hi (some m)
    | .str => sliceStep false td x lo hi mx
    | _ => fail
  | .fieldAddr t x j => M.bind (ofOpt (TT t)) fun td => M.bind (opC x) fun p => M.bind (fieldAddrAt td p j) val
  | .field t x j => M.bind (ofOpt (TT t)) fun td => M.bind (opV x) fun
    | .agg cs => M.bind (ofOpt td.flds[j]?) fun f => M.bind (ofOpt (TT f.1)) fun tf => M.bind (guardB (Nat.ble (f.2 + tf.sz) cs.length)) fun _ => match tf.agg, (cs.drop f.2).take tf.sz with
      | true, l => M.pure ⟨.w (.agg l), []⟩
      | false, [c] => val c
      | false, _ => fail
    | _ => fail
  | .indexAddr t x i => M.bind (ofOpt (TT t)) fun td => M.bind (elemOf TT td) fun te => M.bind (opC x) fun cx => M.bind (opC i) fun
    | .v (.int _) n => M.bind (indexAddrAt te cx n) val
    | _ => fail
  | .index t x i => M.bind (ofOpt (TT t)) fun td => match td.ty with
    | .str => indexStep x i
    | _ => fail
  | .extract x j => M.bind (opd x) fun
    | .tup vs => M.bind (ofOpt vs[j]?) fun v => M.pure ⟨.w v, []⟩
    | _ => fail
  | .call { callee := .builtin .len, args := a, argTypes := ts } => match a.toList, ts.toList with
    | [x], [t] => M.bind (ofOpt (TT t)) fun td => match td.ty with
      | .slice _ => lenStep true x
      | .str => lenStep false x
      | _ => fail
    | _, _ => fail
  | .call { callee := .builtin .append, args := a, argTypes := ts } => match a.toList, ts.toList with
    | [x, y], [t, t'] => M.bind (guardB (Nat.beq t t')) fun _ => M.bind (dstOf o.dst) fun d => M.bind (ofOpt (TT t)) fun td => M.bind (elemOf TT td) fun te => appendStep d td.elem te x y
    | _, _ => fail
  | .call { callee := .value f, args := a, .. } => M.bind (calleeOf f a.toList) fun ga => M.bind (ofOpt (phiK Φ ga.1 ga.2)) fun s => summStep s (o.dst.getD 0) ga.2
  | _ => fail
end ops
end Go.MC

set_option linter.unusedVariables false
set_option linter.unusedSimpArgs false
namespace Go.MC
open Go.RowKit
inductive X where
  | nrm
  | ex (id : Nat)
  | rt
def setS (S : St) (i : Nat) (v : AV) : St := ⟨(i, v) :: S.fr, S.H⟩
def putF (dst : Option Nat) (v : AV) (fr : List (Nat × AV)) : List (Nat × AV) := match dst with
  | some d => (d, v) :: fr
  | none => fr
def app (dst : Option Nat) (U : Upd) (S : St) : St := ⟨putF dst U.val S.fr, U.obs ++ S.H⟩
def unk : Upd := ⟨.w (.one .nd), []⟩
def bV (b : Bool) : AV := .w (.one (.v .bool b))
def onBool {ρ : Type} (S : St) (i : Nat) (kt kf : St → Option ρ) : Option ρ := match lkF S.fr i with
  | .w (.one (.v .bool b)) => bif b then kt (setS S i (bV true)) else kf (setS S i (bV false))
  | _ => none
def onBool3 {ρ : Type} (S : St) (i : Nat) (kt kf kn : St → Option ρ) : Option ρ := match lkF S.fr i with
  | .w (.one (.v .bool b)) => bif b then kt (setS S i (bV true)) else kf (setS S i (bV false))
  | .w (.one .nd) => kn S
  | _ => none
inductive Dir where
  | keep
  | own (n e : Nat) (r : Ty)
  | dow (n e : Nat) (ns : List Nat) (r : Ty)
  | frz (r : Ty)
  | drop
structure Norm where
  fr : List (Nat × Dir)
  bx : List (Nat × List Dir)
  os : List Nat
structure Ann where
  hd : Norm
  exs : List (Nat × Norm)
  rt : Norm
noncomputable def both {ρ : Type} (a b : Option ρ) : Option ρ := @ite _ (a = b) (Classical.propDecidable _) a none
theorem both_eq {ρ : Type} {a b : Option ρ} {r : ρ} (h : both a b = some r) : a = some r ∧ b = some r := by
  unfold both at h
  split at h
  · rename_i e
    exact ⟨h, e ▸ h⟩
  · cases h
theorem both_self {ρ : Type} (a : Option ρ) : both a a = a := by unfold both; rw [if_pos rfl]
def isNilC : Operand → Bool
  | .const (.slice none 0 0) => true
  | _ => false
def nilT : Op → Option (Nat × Nat)
  | .binOp .eql t (.tmp x) y _ => bif isNilC y then some (t, x) else none
  | _ => none
def TD.isSl (td : TD) : Bool := match td.ty with
  | .slice _ => true
  | _ => false
def isEmp {α : Type} : List α → Bool
  | [] => true
  | _ :: _ => false
structure Env where
  TT : Nat → Option TD
  Φ : Nat → Option Summ
  inl : (ρ : Type) → Nat → List AV → List (Nat × Ob) → (AV → List (Nat × Ob) → Option ρ) → Option ρ
  an : Nat → Option Ann
  ent : List Nat
  N : Nat
def memN : Nat → List Nat → Bool
  | _, [] => false
  | i, j :: l => Nat.beq j i || memN i l
def nodupN : List Nat → Bool
  | [] => true
  | i :: l => !memN i l && nodupN l
def disjN : List Nat → List Nat → Bool
  | [], _ => true
  | i :: l, m => !memN i m && disjN l m
def subN : List Nat → List Nat → Bool
  | [], _ => true
  | i :: l, m => memN i m && subN l m
def C.refs : C → List Nat
  | .arr id | .pb id _ | .pa id _ _ => [id]
  | .fn _ caps => caps
  | _ => []
def V1.refs (v : V1) : List Nat := v.cells.flatMap C.refs
def AV.refs : AV → List Nat
  | .w v => v.refs
  | .tup vs => vs.flatMap V1.refs
def normC (ids : List Nat) (H : List (Nat × Ob)) : Dir → C → Option (C × List Nat × List (Nat × Ob))
  | .keep, c => bif subN c.refs ids then some (c, [], []) else none
  | .own n e r, .emp => some (.arr n, [], [(n, .arr e r [])])
  | .own n e r, .mt => some (.arr n, [], [(n, .arr e r [])])
  | .own n e r, .arr id => match lkH H id with
    | some (.arr e' r' xs) => bif Nat.beq e' e && (decide (r' = r) && !isPar id && !isPar n) then some (.arr n, [id], [(n, .arr e' r' xs)]) else none
    | some (.arr e' r' xs (.yes _)) => bif Nat.beq e' e && (decide (r' = r) && !isPar id && !isPar n) then some (.arr n, [id], [(n, .arr e' r' xs)]) else none
    | _ => none
  | .dow n e ns r, .emp => bif !isPar n then some (.arr n, [], [(n, .arr e r [] (.yes ns))]) else none
  | .dow n e ns r, .mt => bif !isPar n then some (.arr n, [], [(n, .arr e r [] (.yes ns))]) else none
  | .dow n e ns r, .arr id => match lkH H id with
    | some (.arr e' r' xs (.yes ns')) => bif Nat.beq e' e && (decide (r' = r) && decide (ns' = ns) && !isPar id && !isPar n) then some (.arr n, [id], [(n, .arr e' r' xs (.yes ns'))]) else none
    | _ => none
  | .frz r, .emp => some (.v (.slice r) [], [], [])
  | .frz r, .mt => some (.v (.slice r) [], [], [])
  | .frz r, .v t x => some (.v t x, [], [])
  | .frz r, .arr id => match lkH H id with
    | some (.arr _ r' xs) => bif isPar id then none else some (.v (.slice r') xs, [id], [])
    | some (.arr _ r' xs (.yes _)) => bif isPar id then none else some (.v (.slice r') xs, [id], [])
    | some (.imm r' xs) => some (.v (.slice r') xs, [], [])
    | _ => none
  | .drop, _ => some (.u, [], [])
  | _, _ => none
def normCs (ids : List Nat) (H : List (Nat × Ob)) : List Dir → List C → Option (List C × List Nat × List (Nat × Ob))
  | [], [] => some ([], [], [])
  | d :: ds, c :: cs => match normC ids H d c, normCs ids H ds cs with
    | some p, some q => some (p.1 :: q.1, p.2.1 ++ q.2.1, p.2.2 ++ q.2.2)
    | _, _ => none
  | _, _ => none
def normF (ids : List Nat) (S : St) : List (Nat × Dir) → Option (List (Nat × AV) × List Nat × List (Nat × Ob))
  | [] => some ([], [], [])
  | (i, .keep) :: l => bif subN (lkF S.fr i).refs ids then match normF ids S l with
    | some q => some ((i, lkF S.fr i) :: q.1, q.2)
    | none => none else none
  | (i, d) :: l => match lkF S.fr i with
    | .w (.one c) => match normC ids S.H d c, normF ids S l with
      | some p, some q => some ((i, .w (.one p.1)) :: q.1, p.2.1 ++ q.2.1, p.2.2 ++ q.2.2)
      | _, _ => none
    | _ => none
def normB (ids : List Nat) (S : St) : List (Nat × List Dir) → Option (List (Nat × Ob) × List Nat × List (Nat × Ob))
  | [] => some ([], [], [])
  | (i, ds) :: l => match lkH S.H i with
    | some (.box cs) => match normCs ids S.H ds cs, normB ids S l with
      | some p, some q => some ((i, .box p.1) :: q.1, p.2.1 ++ q.2.1, p.2.2 ++ q.2.2)
      | _, _ => none
    | _ => none
def normO (H : List (Nat × Ob)) : List Nat → Option (List (Nat × Ob))
  | [] => some []
  | i :: l => match lkH H i, normO H l with
    | some (.arr e r xs), some q => some ((i, .arr e r xs) :: q)
    | some (.arr e r xs (.yes ns)), some q => some ((i, .arr e r xs (.yes ns)) :: q)
    | some (.imm r xs), some q => some ((i, .imm r xs) :: q)
    | some .gone, some q => some ((i, .gone) :: q)
    | _, _ => none
def normS (ent : List Nat) (sp : Norm) (S : St) : Option St :=
  let ids := sp.bx.map (·.1) ++ sp.os
  match normF ids S sp.fr, normB ids S sp.bx, normO S.H sp.os with
  | some f, some b, some o =>
    let taken := f.2.1 ++ b.2.1
    let new := f.2.2 ++ b.2.2
    bif subN ent ids && nodupN (taken ++ ids) && nodupN (new.map (·.1) ++ ids) then some ⟨f.1, b.1 ++ (o ++ new)⟩ else none
  | _, _, _ => none
def afterM (ms : List Nat) (o : Oper) : Nat := o.after.toList.foldl (fun m e => bif Region.binds .any e then m ||| (1 <<< e.on) ||| ms.getD e.on 0 else m) 0
def masks : List Oper → List Nat → List Nat
  | [], ms => ms
  | o :: os, ms => masks os (ms ++ [afterM ms o])
def keysW (dst : Option Nat) (U : Upd) : List Nat := (match dst with | some d => [2 * d] | none => []) ++ U.obs.map fun p => 2 * p.1 + 1
def okPair (m : Nat) (R W : List Nat) (p : Nat × List Nat × List Nat) : Bool := Nat.testBit m p.1 || (disjN p.2.2 R && disjN p.2.2 W && disjN p.2.1 W)
def holeIds : List (Nat × Ob) → List Nat
  | [] => []
  | (id, .arr _ _ _ (.yes _ (some _))) :: l => id :: holeIds l
  | _ :: l => holeIds l
def closeH (H : List (Nat × Ob)) (id : Nat) : List (Nat × Ob) := match lkH H id with
  | some (.arr e r xs (.yes ns (some h))) => match closeP id e r xs ns h.1 h.2.1 h.2.2 (lkH H h.2.2) with
    | some q => q.2 ++ H
    | none => H
  | _ => H
def closeL : List Nat → List (Nat × Ob) → List (Nat × Ob)
  | [], H => H
  | id :: l, H => closeL l (closeH H id)
def closeAll (S : St) : St := match holeIds S.H with
  | [] => S
  | l => ⟨S.fr, closeL l S.H⟩
section code
variable (E : Env)
noncomputable def runOp {ρ : Type} (o : Oper) (S : St) (k : St → Option ρ) : Option ρ := match o.op with
  | .call { callee := .value f, args := a, .. } => calleeOf f a.toList ρ S [] fun ga _ => match phiK E.Φ ga.1 ga.2 with
    | some s => summStep s (o.dst.getD 0) ga.2 ρ S [] fun U _ => k (app o.dst U S)
    | none => E.inl ρ ga.1 ga.2 S.H fun v H => k ⟨putF o.dst v S.fr, H⟩
  | op => match nilT op with
    | some (t, x) => match lkF S.fr x, E.TT t with
      | .w (.one (.v (.slice _) xs)), some td => bif td.isSl then bif isEmp xs then both (k (app o.dst ⟨bV true, []⟩ S)) (k (app o.dst ⟨bV false, []⟩ S)) else k (app o.dst ⟨bV false, []⟩ S) else none
      | _, _ => none
    | none => step E.TT E.Φ o ρ S [] fun U _ => k (app o.dst U S)
def guardSlot (all : List Oper) (j : Nat) : Option Nat := (all[j]?).bind (·.dst)
noncomputable def runOps {ρ : Type} (all : List Oper) : List Oper → St → (St → Option ρ) → Option ρ
  | [], S, k => k S
  | o :: rest, S, k => match o.guard with
    | none => runOp E o S fun S' => runOps all rest S' k
    | some (j, want) => match guardSlot all j with
      | some s => bif want then onBool3 S s (fun S => runOp E o S fun S' => runOps all rest S' k) (fun S => runOps all rest (app o.dst unk S) k) (fun S => runOps all rest (app o.dst unk S) k)
        else onBool3 S s (fun S => runOps all rest (app o.dst unk S) k) (fun S => runOp E o S fun S' => runOps all rest S' k) (fun S => runOps all rest (app o.dst unk S) k)
      | none => none
def runDraw {ρ : Type} (all : List Oper) (ms : List Nat) : Nat → List Oper → List (Nat × List Nat × List Nat) → St → (St → Option ρ) → Option ρ
  | _, [], _, S, k => k S
  | i, o :: rest, acc, S, k =>
    let go : St → List Nat → Option ρ := fun S L => step E.TT E.Φ o ρ S L fun U R =>
      bif acc.all (okPair (ms.getD i 0) R (keysW o.dst U)) then runDraw all ms (i + 1) rest ((i, R, keysW o.dst U) :: acc) (app o.dst U S) k else none
    let skip : St → List Nat → Option ρ := fun S R =>
      bif acc.all (okPair (ms.getD i 0) R (keysW o.dst unk)) then runDraw all ms (i + 1) rest ((i, R, keysW o.dst unk) :: acc) (app o.dst unk S) k else none
    match o.guard with
    | none => go S []
    | some (j, want) => match guardSlot all j with
      | some s => bif want then onBool3 S s (fun S => go S [2 * s]) (fun S => skip S [2 * s]) (fun S => skip S [2 * s]) else onBool3 S s (fun S => skip S [2 * s]) (fun S => go S [2 * s]) (fun S => skip S [2 * s])
      | none => none
def normK {ρ : Type} (ent : List Nat) (sp : Norm) (S : St) (k : St → Option ρ) : Option ρ := match normS ent sp S with
  | some S' => k S'
  | none => none
def exNorm (id : Nat) : List (Nat × Norm) → Option Norm
  | [] => none
  | (j, n) :: l => bif Nat.beq j id then some n else exNorm id l
def kLoop {ρ : Type} (ent : List Nat) (an : Ann) (next : St → Option ρ) (k : X → St → Option ρ) : X → St → Option ρ
  | .nrm, S => normK ent an.hd S next
  | .ex id, S => match exNorm id an.exs with
    | some sp => normK ent sp S (k (.ex id))
    | none => none
  | .rt, S => normK ent an.rt S (k .rt)
def iter {ρ : Type} (ent : List Nat) (an : Ann) (f : St → (X → St → Option ρ) → Option ρ) : Nat → St → (X → St → Option ρ) → Option ρ
  | 0, _, _ => none
  | n + 1, S, k => f S (kLoop ent an (fun S' => iter ent an f n S' k) k)
def kBlk {ρ : Type} (id : Nat) (k : X → St → Option ρ) : X → St → Option ρ
  | .ex j, S => bif Nat.beq j id then k .nrm S else k (.ex j) S
  | x, S => k x S
def kSeq {ρ : Type} (f : St → (X → St → Option ρ) → Option ρ) (k : X → St → Option ρ) : X → St → Option ρ
  | .nrm, S => f S k
  | x, S => k x S
noncomputable def code {ρ : Type} : Code → Nat → St → (X → St → Option ρ) → Option ρ
  | .skip, _, S, k => k .nrm S
  | .region _ ops draw, _, S, k => match draw with
    | false => runOps E ops.toList ops.toList S fun S => k .nrm (closeAll S)
    | true => runDraw E ops.toList (masks ops.toList []) 0 ops.toList [] S fun S => k .nrm (closeAll S)
  | .seq a b, blk, S, k => code a blk S (kSeq (code b blk) k)
  | .cond c a b, blk, S, k => match c with
    | .tmp t => onBool S t (fun S => code a blk S k) (fun S => code b blk S k)
    | .const (.bool t) => bif t then code a blk S k else code b blk S k
    | _ => none
  | .block id c, _, S, k => code c id S (kBlk id k)
  | .loop c, blk, S, k => match E.an blk with
    | some an => normK E.ent an.hd S fun S' => iter E.ent an (code c blk) E.N S' k
    | none => none
  | .exit id, _, S, k => k (.ex id) S
  | .ret, _, S, k => k .rt S
  | _, _, _, _ => none
end code
def getRes (TT : Nat → Option TD) (S : St) : ResultVar → Option V1
  | .tmp t => match lkF S.fr t with
    | .w v => some v
    | .tup _ => none
  | .cell t T => match lkF S.fr t, TT T with
    | .w (.one (.pb id 0)), some td => match lkH S.H id, td.agg with
      | some (.box cs), true => bif Nat.beq cs.length td.sz then some (.agg cs) else none
      | some (.box [c]), false => bif Nat.beq 1 td.sz then some (.one c) else none
      | _, _ => none
    | _, _ => none
def getRess (TT : Nat → Option TD) (S : St) : List ResultVar → Option (List V1)
  | [] => some []
  | r :: rs => match getRes TT S r, getRess TT S rs with
    | some v, some vs => some (v :: vs)
    | _, _ => none
def slots : Nat → List AV → List (Nat × AV)
  | _, [] => []
  | i, v :: vs => (i, v) :: slots (i + 1) vs
def kFun {ρ : Type} (TT : Nat → Option TD) (rs : List ResultVar) (k : AV → List (Nat × Ob) → Option ρ) : X → St → Option ρ
  | .ex _, _ => none
  | _, S => match getRess TT S rs with
    | some vs => k (tupV vs) S.H
    | none => none
structure FI where
  res : List ResultVar
  body : Code
  ntmps : Nat
  an : Nat → Option Ann
noncomputable def runF {ρ : Type} (TT : Nat → Option TD) (Φ : Nat → Option Summ) (inl : (ρ : Type) → Nat → List AV → List (Nat × Ob) → (AV → List (Nat × Ob) → Option ρ) → Option ρ) (N : Nat) (f : FI) (ent : List Nat)
    (vs : List AV) (H : List (Nat × Ob)) (k : AV → List (Nat × Ob) → Option ρ) : Option ρ :=
  code { TT := TT, Φ := Φ, inl := inl, an := f.an, ent := ent, N := N } f.body 0 ⟨slots 0 vs, H⟩ (kFun TT f.res k)
noncomputable def inlD (TT : Nat → Option TD) (Φ : Nat → Option Summ) (F : Nat → Option FI) (N : Nat) : Nat → (ρ : Type) → Nat → List AV → List (Nat × Ob) → (AV → List (Nat × Ob) → Option ρ) → Option ρ
  | 0 => fun _ _ _ _ _ => none
  | d + 1 => fun ρ g vs H k => match F g with
    | some f => bif Nat.ble vs.length f.ntmps then runF TT Φ (inlD TT Φ F N d) N f (H.map (·.1)) vs H k else none
    | none => none
def extC (H : List (Nat × Ob)) : (t : Ty) → List C → (es : List (Nat × Option (List Nat))) → Option (t.den × List C × List (Nat × Option (List Nat)) × List Nat)
  | .pair a b, cs, es => match extC H a cs es with
    | some p => match extC H b p.2.1 p.2.2.1 with
      | some q => some ((p.1, q.1), q.2.1, q.2.2.1, p.2.2.2 ++ q.2.2.2)
      | none => none
    | none => none
  | .slice r, .arr id :: cs, e :: es => match lkH H id with
    | some (.arr e' r' xs d) => match castT (.slice r) (.slice r') xs with
      | some x => bif Nat.beq e' e.1 && (dpEq d e.2 && !isPar id) then some (x, cs, es, [id]) else none
      | none => none
    | _ => none
  | .slice r, .emp :: cs, e :: es => some ([], cs, es, [])
  | .slice r, .mt :: cs, e :: es => some ([], cs, es, [])
  | .slice _, _, _ => none
  | t, .v t' x :: cs, es => match castT t t' x with
    | some x => some (x, cs, es, [])
    | none => none
  | _, _, _ => none
def ext1 (H : List (Nat × Ob)) : List RS → List V1 → Option (List Dv × List Nat × List Nat)
  | [], [] => some ([], [], [])
  | .any :: rs, _ :: vs => ext1 H rs vs
  | .d t agg :: rs, v :: vs => match agg, v with
    | true, .one _ => none
    | false, .agg _ => none
    | _, v => match pack true t v.cells (t.den × List C × List Nat) ⟨[], H⟩ [] (fun p _ => some (p.1, p.2.1, p.2.2.map (·.1))), ext1 H rs vs with
      | some (x, [], l), some z => some (⟨t, x⟩ :: z.1, z.2.1, l ++ z.2.2)
      | _, _ => none
  | .own t agg es :: rs, v :: vs => match agg, v with
    | true, .one _ => none
    | false, .agg _ => none
    | _, v => match extC H t v.cells es, ext1 H rs vs with
      | some (x, [], [], ids), some z => some (⟨t, x⟩ :: z.1, ids ++ z.2.1, z.2.2)
      | _, _ => none
  | _, _ => none
def extB (H : List (Nat × Ob)) : List (Nat × Hd) → Option (List Dv × List Nat)
  | [] => some ([], [])
  | (id, .ow e r o) :: l => match lkH H id with
    | some (.arr e' r' xs d) => bif Nat.beq e' e && dpEq d o then match castT (.slice r) (.slice r') xs, extB H l with
      | some x, some z => some (⟨.slice r, x⟩ :: z.1, z.2)
      | _, _ => none else none
    | _ => none
  | (_, .mv _ _ _) :: l => extB H l
  | (id, .bx t) :: l => match lkH H id with
    | some (.box cs) => match pack true t cs (t.den × List C × List Nat) ⟨[], H⟩ [] (fun p _ => some (p.1, p.2.1, p.2.2.map (·.1))), extB H l with
      | some (x, [], l1), some z => some (⟨t, x⟩ :: z.1, l1 ++ z.2)
      | _, _ => none
    | _ => none
def AV.list : AV → Option (List V1)
  | .w v => some [v]
  | .tup [_] => none
  | .tup vs => some vs
def boxId (i : Nat) : Nat := 500000 + i
def parId (i : Nat) : Nat := 400000 + i
def mvId (i : Nat) : Nat := 600000 + i
def pars : Nat → List PS → List Dv → Option (List AV × List (Nat × Ob) × List (Nat × Hd))
  | _, [], [] => some ([], [], [])
  | i, .d t agg :: ps, d :: ds => match castT t d.1 d.2, pars (i + 1) ps ds with
    | some x, some z => some (.w (asV agg t x) :: z.1, z.2)
    | _, _ => none
  | i, .bx t :: ps, d :: ds => match castT t d.1 d.2, pars (i + 1) ps ds with
    | some x, some z => bif Nat.blt i 100000 then some (.w (.one (.pb (boxId i) 0)) :: z.1, (boxId i, .box (unpack t x)) :: z.2.1, (boxId i, .bx t) :: z.2.2) else none
    | _, _ => none
  | i, .ow e r o :: ps, d :: ds => match castT (.slice r) d.1 d.2, pars (i + 1) ps ds with
    | some x, some z => bif Nat.blt i 100000 then some (.w (.one (.arr (parId i))) :: z.1, (parId i, .arr e r x (dpO o)) :: z.2.1, (parId i, .ow e r o) :: z.2.2) else none
    | _, _ => none
  | i, .mv e r o :: ps, d :: ds => match castT (.slice r) d.1 d.2, pars (i + 1) ps ds with
    | some x, some z => bif Nat.blt i 100000 then some (.w (.one (.arr (mvId i))) :: z.1, (mvId i, .arr e r x (dpO o)) :: z.2.1, (mvId i, .mv e r o) :: z.2.2) else none
    | _, _ => none
  | _, _, _ => none
def ptrIds : Nat → List AV → Option (List Nat × List AV)
  | 0, vs => some ([], vs)
  | n + 1, .w (.one (.pb id 0)) :: vs => match ptrIds n vs with
    | some z => some (id :: z.1, z.2)
    | none => none
  | _ + 1, _ => none
def oneCs : Nat → List AV → Option (List C × List AV)
  | 0, vs => some ([], vs)
  | n + 1, .w (.one c) :: vs => match oneCs n vs with
    | some z => some (c :: z.1, z.2)
    | none => none
  | _ + 1, _ => none
def unfl : List PS → List AV → Option (List AV)
  | [], [] => some []
  | [], _ :: _ => none
  | .cl g ts :: ps, vs => match ptrIds ts.length vs with
    | some z => match unfl ps z.2 with
      | some y => some (.w (.one (.fn g z.1)) :: y)
      | none => none
    | none => none
  | .d _ _ :: ps, v :: vs => match unfl ps vs with
    | some y => some (v :: y)
    | none => none
  | .bx _ :: ps, v :: vs => match unfl ps vs with
    | some y => some (v :: y)
    | none => none
  | .ow _ _ _ :: ps, v :: vs => match unfl ps vs with
    | some y => some (v :: y)
    | none => none
  | .mv _ _ _ :: ps, v :: vs => match unfl ps vs with
    | some y => some (v :: y)
    | none => none
  | .sp l :: ps, vs => match oneCs l.length vs with
    | some z => match unfl ps z.2 with
      | some y => some (.w (.agg z.1) :: y)
      | none => none
    | none => none
  | _, [] => none
def kExt (s : Summ) (bx : List (Nat × Hd)) (v : AV) (H : List (Nat × Ob)) : Option (List Dv) := match v.list with
  | some l => match ext1 H s.rs l, extB H bx with
    | some z, some b => bif nodupN z.2.1 && disjN z.2.1 (z.2.2 ++ b.2) then some (z.1 ++ b.1) else none
    | _, _ => none
  | none => none
def kT {R : Type} (d : List Dv → Option R) (s : Summ) (bx : List (Nat × Hd)) (v : AV) (H : List (Nat × Ob)) : Option R := match kExt s bx v H with
  | some ds => d ds
  | none => none
noncomputable def runST {R : Type} (d : List Dv → Option R) (TT : Nat → Option TD) (Φ : Nat → Option Summ) (inl : (ρ : Type) → Nat → List AV → List (Nat × Ob) → (AV → List (Nat × Ob) → Option ρ) → Option ρ) (N : Nat) (f : FI) (s : Summ) (ds : List Dv) : Option R :=
  match pars 0 (flatP s.ps) ds with
  | some p => match unfl s.ps p.1 with
    | some avs => runF TT Φ inl N f (entOf p.2.2) avs p.2.1 (kT d s p.2.2)
    | none => none
  | none => none
end Go.MC

set_option linter.unusedVariables false
set_option linter.unusedSimpArgs false
namespace Go.MC
open Go.RowKit
def Agree (S T : St) (key : Nat) : Prop := (∀ i, key = 2 * i → lkF S.fr i = lkF T.fr i) ∧ (∀ i, key = 2 * i + 1 → lkH S.H i = lkH T.H i)
def Good {α : Type} (m : M α) : Prop := ∀ S : St,
  (∃ a R, ∀ T : St, (∀ key ∈ R, Agree S T key) → ∀ ρ L (k : α → List Nat → Option ρ), m ρ T L k = k a (R ++ L)) ∨ (∀ ρ L (k : α → List Nat → Option ρ), m ρ S L k = none)
def Tells {α : Type} (m : M α) (S : St) (a : α) (R : List Nat) : Prop := ∀ T : St, (∀ key ∈ R, Agree S T key) → ∀ ρ L (k : α → List Nat → Option ρ), m ρ T L k = k a (R ++ L)
theorem Agree.refl (S : St) (key : Nat) : Agree S S key := ⟨fun _ _ => rfl, fun _ _ => rfl⟩
theorem Good.tells {α : Type} {m : M α} (h : Good m) {S : St} {ρ : Type} {L : List Nat} {k : α → List Nat → Option ρ} {r : ρ} (hr : m ρ S L k = some r) :
    ∃ a R, Tells m S a R ∧ k a (R ++ L) = some r := by
  rcases h S with ⟨a, R, ht⟩ | hf
  · refine ⟨a, R, ht, ?_⟩
    rw [← ht S (fun _ _ => Agree.refl _ _) ρ L k]
    exact hr
  · rw [hf] at hr; cases hr
theorem run_bind {α β : Type} (m : M α) (f : α → M β) (ρ : Type) (S : St) : ∀ (L : List Nat) (k : β → List Nat → Option ρ), (M.bind m f) ρ S L k = m ρ S L fun a L' => (f a) ρ S L' k := by
  induction m with
  | ret a => exact fun _ _ => rfl
  | no => exact fun _ _ => rfl
  | slot i g ih => exact fun L k => ih _ _ k
  | obj i g ih => exact fun L k => ih _ _ k
  | grd b m ih =>
    intro L k
    cases b
    · rfl
    · exact ih L k
  | ite b m n ih1 ih2 =>
    intro L k
    cases b
    · exact ih2 L k
    · exact ih1 L k
theorem Good.all {α : Type} (m : M α) : Good m := by
  intro S
  induction m with
  | ret a => exact .inl ⟨a, [], fun T _ ρ L k => rfl⟩
  | no => exact .inr fun _ _ _ => rfl
  | slot i g ih =>
    rcases ih (lkF S.fr i) with ⟨a, R, h⟩ | h
    · refine .inl ⟨a, R ++ [2 * i], fun T hT ρ L k => ?_⟩
      have h1 := (hT (2 * i) (by simp)).1 i rfl
      show (g (lkF T.fr i)) ρ T ((2 * i) :: L) k = _
      rw [← h1, h T (fun key hk => hT key (by simp [hk])), List.append_assoc]
      rfl
    · exact .inr fun ρ L k => h ρ _ k
  | obj i g ih =>
    rcases ih (lkH S.H i) with ⟨a, R, h⟩ | h
    · refine .inl ⟨a, R ++ [2 * i + 1], fun T hT ρ L k => ?_⟩
      have h1 := (hT (2 * i + 1) (by simp)).2 i rfl
      show (g (lkH T.H i)) ρ T ((2 * i + 1) :: L) k = _
      rw [← h1, h T (fun key hk => hT key (by simp [hk])), List.append_assoc]
      rfl
    · exact .inr fun ρ L k => h ρ _ k
  | grd b m ih =>
    cases b
    · exact .inr fun _ _ _ => rfl
    · exact ih
  | ite b m n ih1 ih2 =>
    cases b
    · exact ih2
    · exact ih1
theorem Good.pure {α : Type} (a : α) : Good (M.pure a) := Good.all _
theorem Good.fail {α : Type} : Good (fail : M α) := Good.all _
theorem Good.guard (b : Bool) : Good (guardB b) := Good.all _
theorem Good.rdS (i : Nat) : Good (rdS i) := Good.all _
theorem Good.rdO (i : Nat) : Good (rdO i) := Good.all _
theorem Good.ofOpt {α : Type} (o : Option α) : Good (ofOpt o) := Good.all _
theorem Good.bind {α β : Type} {m : M α} {f : α → M β} (hm : Good m) (hf : ∀ a, Good (f a)) : Good (M.bind m f) := Good.all _
theorem Good.ite {α : Type} {b : Bool} {m n : M α} (hm : Good m) (hn : Good n) : Good (iteB b m n) := Good.all _
theorem good_opd (x : Operand) : Good (opd x) := Good.all _
theorem good_asC (v : AV) : Good (asC v) := Good.all _
theorem good_asV1 (v : AV) : Good (asV1 v) := Good.all _
theorem good_opC (x : Operand) : Good (opC x) := Good.all _
theorem good_opV (x : Operand) : Good (opV x) := Good.all _
theorem good_packC (fz : Bool) (t : Ty) (c : C) : Good (packC fz t c) := Good.all _
theorem good_pack (fz : Bool) (t : Ty) (cs : List C) : Good (pack fz t cs) := Good.all _
theorem good_opVs (l : List Operand) : Good (opVs l) := Good.all _
theorem good_opAs (l : List Operand) : Good (opAs l) := Good.all _
theorem good_pbIds (l : List Operand) : Good (pbIds l) := Good.all _
theorem good_packAll (fz : Bool) (t : Ty) (l : List V1) : Good (packAll fz t l) := Good.all _
theorem good_freshAll (l : List (Nat × Ob)) : Good (freshAll l) := Good.all _
theorem good_inRange (i : Int) (n : Nat) : Good (inRange i n) := Good.all _
theorem good_loadD (td : TD) (t : Ty) (x : t.den) : Good (loadD td t x) := Good.all _
theorem good_dstOf (d : Option Nat) : Good (dstOf d) := Good.all _
theorem good_loadAt (d : Option Nat) (td : TD) (p : C) : Good (loadAt d td p) := Good.all _
theorem good_closeM (id : Nat) : Good (closeM id) := Good.all _
theorem good_ownM (t : Ty) (cs : List C) (es : List Nat) : Good (ownM t cs es) := Good.all _
theorem good_fieldAddrAt (td : TD) (p : C) (j : Nat) : Good (fieldAddrAt td p j) := Good.all _
theorem good_indexAddrAt (td : TD) (x : C) (i : Int) : Good (indexAddrAt td x i) := Good.all _
theorem good_sliceOf (x : C) : Good (sliceOf x) := Good.all _
theorem good_rowsOf (x : C) : Good (rowsOf x) := Good.all _
theorem good_optInt (x : Option Operand) (d : Int) : Good (optInt x d) := Good.all _
theorem good_args1 (fz : Bool) : ∀ (ps : List PS) (vs : List AV), Good (args1 fz ps vs) := fun _ _ => Good.all _
theorem good_summStep (s : Summ) (dst : Nat) (vs : List AV) : Good (summStep s dst vs) := Good.all _
theorem good_calleeOf (f : Operand) (l : List Operand) : Good (calleeOf f l) := Good.all _
theorem good_elemOf (TT : Nat → Option TD) (td : TD) : Good (elemOf TT td) := Good.all _
theorem good_step (TT : Nat → Option TD) (Φ : Nat → Option Summ) (o : Oper) : Good (step TT Φ o) := Good.all _
end Go.MC

set_option linter.unusedVariables false
set_option linter.unusedSimpArgs false
namespace Go.MC
open Go.RowKit
structure Fx where
  B : Nat
  okA : Nat → Prop
  ext : Nat → Prop
  w0 : World
  lt : ∀ b, okA b → b < B
  ne : ∀ b, okA b → ¬ ext b
def Fx.bs (_ : Fx) (_ : Nat) : Nat := 0
structure K where
  w : World
  h : Nat → Option Ob
  μ : Nat → Nat
  ν : Nat → Value
  nb : Nat → List Nat
def ownB : Value → Option Nat
  | .slice (some a) _ (_ + 1) => some a.block
  | _ => none
def OwnsR (w : World) (base : Nat) (e : TypeId) (size : Nat) (v : Value) (n : Nat) (xs : List Value) : Prop :=
  xs.length = n * size ∧ ((∃ a, v = .slice a 0 0 ∧ n = 0) ∨
   ∃ g cap cur, v = .slice (some ⟨g, 0, none⟩) n cap ∧ 0 < cap ∧ base ≤ g ∧ w.heap[g]? = some (.cells cur e (0, 0)) ∧ n ≤ cap ∧ cap ≤ maxLen ∧ cur.size = cap * size ∧ cur.toList.take (n * size) = xs)
theorem ownB_pos {a : Addr} {n cap : Nat} (h : 0 < cap) : ownB (.slice (some a) n cap) = some a.block := by
  cases cap with
  | zero => omega
  | succ c => rfl
theorem ownB_zero (a : Option Addr) (n : Nat) : ownB (.slice a n 0) = none := by cases a <;> rfl
theorem ownB_some {v : Value} {b : Nat} (h : ownB v = some b) : v.ownBlock = some b := by
  unfold ownB at h
  split at h
  · exact h
  · cases h
theorem OwnsR.of {w : World} {base : Nat} {e : TypeId} {size n : Nat} {v : Value} {xs : List Value} (h : w.ownsRow base e size v n xs) : OwnsR w base e size v n xs := by
  refine ⟨h.1, ?_⟩
  rcases h.2 with ⟨h1, h2⟩ | ⟨g, cap, cur, h1, h2, h3, h4, h5, h6, h7⟩
  · exact .inl ⟨none, h1, h2⟩
  · rcases Nat.eq_zero_or_pos cap with hc | hc
    · subst hc
      have : n = 0 := by omega
      subst this
      exact .inl ⟨_, h1, rfl⟩
    · exact .inr ⟨g, cap, cur, h1, hc, h2, h3, h4, h5, h6, h7⟩
theorem OwnsR.lt {w : World} {base : Nat} {e : TypeId} {size n : Nat} {v : Value} {xs : List Value} (h : OwnsR w base e size v n xs) : ∀ b, ownB v = some b → base ≤ b ∧ b < w.heap.size := by
  intro b hb
  rcases h.2 with ⟨a, rfl, _⟩ | ⟨g, cap, cur, rfl, hc, h2, h3, _⟩
  · rw [ownB_zero] at hb; cases hb
  · rw [ownB_pos hc] at hb
    cases hb
    exact ⟨h2, (Array.getElem?_eq_some_iff.1 h3).1⟩
theorem OwnsR.cells {w : World} {base : Nat} {e : TypeId} {size n : Nat} {v : Value} {xs : List Value} (h : OwnsR w base e size v n xs) {g : Nat} (hg : ownB v = some g) : ∀ j u, xs[j]? = some u → w.cell? ((⟨g, 0, none⟩ : Addr).add j) = some u := by
  rcases h.2 with ⟨a, rfl, _⟩ | ⟨g', cap, cur, h1, hc, h2, h3, h4, h5, h6, h7⟩
  · rw [ownB_zero] at hg; cases hg
  · have : w.ownsRow base e size v n xs := ⟨h.1, .inr ⟨g', cap, cur, h1, h2, h3, h4, h5, h6, h7⟩⟩
    exact this.cells (ownB_some hg)
theorem OwnsR.form {w : World} {base : Nat} {e : TypeId} {size n : Nat} {v : Value} {xs : List Value} (h : OwnsR w base e size v n xs) : ∃ a c, v = .slice a n c := by
  rcases h.2 with ⟨a, rfl, rfl⟩ | ⟨g, cap, cur, rfl, _⟩
  · exact ⟨_, _, rfl⟩
  · exact ⟨_, _, rfl⟩
theorem OwnsR.mt {w : World} {base : Nat} {e : TypeId} {size : Nat} (a : Option Addr) : OwnsR w base e size (.slice a 0 0) 0 [] := ⟨by simp, .inl ⟨a, rfl, rfl⟩⟩
def K.own (k : K) (id b : Nat) : Prop := match k.h id with
  | some (.box _) => k.μ id = b
  | some (.arr _ _ _ .no) => ownB (k.ν id) = some b
  | some (.arr _ _ _ _) => ownB (k.ν id) = some b ∨ b ∈ k.nb id
  | _ => False
def OwnRd (w : World) (ok : Nat → Prop) (base : Nat) : (t : Ty) → t.den → List Nat → List Value → List Nat → List Nat → Prop
  | .pair a b, x, es, vs, es', os => ∃ v1 v2 es1 o1 o2, vs = v1 ++ v2 ∧ OwnRd w ok base a x.1 es v1 es1 o1 ∧ OwnRd w ok base b x.2 es1 v2 es' o2 ∧ os = o1 ++ o2
  | .slice r, xs, es, vs, es', os => ∃ e v us, es = e :: es' ∧ vs = [v] ∧ OwnsR w base e r.sz v xs.length us ∧ RdRows w ok r xs us ∧ xs.length ≤ lim ∧ os = (ownB v).toList
  | .bool, x, es, vs, es', os => es' = es ∧ os = [] ∧ Rd w ok .bool x vs
  | .int k, x, es, vs, es', os => es' = es ∧ os = [] ∧ Rd w ok (.int k) x vs
  | .str, x, es, vs, es', os => es' = es ∧ os = [] ∧ Rd w ok .str x vs
def OwnRows (w : World) (ok : Nat → Prop) (base : Nat) (r : Ty) (ns : List Nat) : List r.den → List Value → List Nat → Prop
  | [], vs, os => vs = [] ∧ os = []
  | x :: xs, vs, os => ∃ v1 v2 o1 o2, vs = v1 ++ v2 ∧ OwnRd w ok base r x ns v1 [] o1 ∧ OwnRows w ok base r ns xs v2 o2 ∧ os = o1 ++ o2
def RowsO (w : World) (ok : Nat → Prop) (base : Nat) (r : Ty) : Option (List Nat) → List r.den → List Value → List Nat → Prop
  | none, xs, vs, os => RdRows w ok r xs vs ∧ os = []
  | some ns, xs, vs, os => OwnRows w ok base r ns xs vs os
def OwnRd2 (w : World) (ok : Nat → Prop) (base : Nat) : (t : Ty) → t.den → List (Nat × Option (List Nat)) → List Value → List (Nat × Option (List Nat)) → List Nat → Prop
  | .pair a b, x, es, vs, es', os => ∃ v1 v2 es1 o1 o2, vs = v1 ++ v2 ∧ OwnRd2 w ok base a x.1 es v1 es1 o1 ∧ OwnRd2 w ok base b x.2 es1 v2 es' o2 ∧ os = o1 ++ o2
  | .slice r, xs, es, vs, es', os => ∃ e v us bl, es = e :: es' ∧ vs = [v] ∧ OwnsR w base e.1 r.sz v xs.length us ∧ RowsO w ok base r e.2 xs us bl ∧ xs.length ≤ lim ∧ os = (ownB v).toList ++ bl
  | .bool, x, es, vs, es', os => es' = es ∧ os = [] ∧ Rd w ok .bool x vs
  | .int k, x, es, vs, es', os => es' = es ∧ os = [] ∧ Rd w ok (.int k) x vs
  | .str, x, es, vs, es', os => es' = es ∧ os = [] ∧ Rd w ok .str x vs
def K.ok (F : Fx) (k : K) (b : Nat) : Prop := F.okA b ∨ ((F.B ≤ b ∨ F.ext b) ∧ b < k.w.heap.size ∧ ∀ id, ¬ k.own id b)
def relC (F : Fx) (k : K) : C → Value → Prop
  | .u, _ => True
  | .nd, v => v = undef
  | .v t x, v => Rd k.w (k.ok F) t x [v]
  | .emp, v => v = .slice none 0 0
  | .mt, v => ∃ a, v = .slice a 0 0
  | .arr id, v => (∃ a n c, v = .slice a n c) ∧ match k.h id with
    | some (.arr ..) => v = k.ν id
    | some (.imm ..) => v = k.ν id
    | some .gone => True
    | _ => False
  | .pd t x, v => ∃ ad vs, v = .pointer (some ad) ∧ k.ok F ad.block ∧ Rd k.w (k.ok F) t x vs ∧ CellsAt k.w ad vs
  | .pb id off, v => (∃ cs, k.h id = some (.box cs)) ∧ v = .pointer (some ⟨k.μ id, off, none⟩)
  | .pa id j p, v => (∃ ad, v = .pointer (some ad)) ∧ match k.h id with
    | some (.arr _ r xs _) => 0 ≤ j ∧ j < (xs.length : Int) ∧ ∃ g n c t o, k.ν id = .slice (some ⟨g, 0, none⟩) n c ∧ pathTy r p = some (t, o) ∧ v = .pointer (some ⟨g, j.toNat * r.sz + o, none⟩)
    | some _ => True
    | none => False
  | .fn g caps, v => (∀ id ∈ caps, ∃ cs, k.h id = some (.box cs)) ∧ v = .func (.func g) #[] (caps.map fun id => Value.pointer (some ⟨k.μ id, 0, none⟩)).toArray
def relCs (F : Fx) (k : K) : List C → List Value → Prop
  | [], vs => vs = []
  | c :: cs, vs => ∃ v vs', vs = v :: vs' ∧ relC F k c v ∧ relCs F k cs vs'
def relV (F : Fx) (k : K) : V1 → Value → Prop
  | .one c, v => relC F k c v
  | .agg cs, v => ∃ vs, v = .agg vs.toArray ∧ relCs F k cs vs
def relVs (F : Fx) (k : K) : List V1 → List Value → Prop
  | [], vs => vs = []
  | c :: cs, vs => ∃ v vs', vs = v :: vs' ∧ relV F k c v ∧ relVs F k cs vs'
def relA (F : Fx) (k : K) : AV → Value → Prop
  | .w v, x => relV F k v x
  | .tup vs, x => ∃ xs, x = .tuple xs.toArray ∧ relVs F k vs xs
def Filled (k : K) (r : Ty) (n : Nat) : Option (Int × List (Nat × Nat) × Nat) → List Value → List Value → Prop
  | none, vs, vs' => vs' = vs
  | some h, vs, vs' => ∃ r2 o, 0 ≤ h.1 ∧ h.1 < (n : Int) ∧ pathTy r h.2.1 = some (.slice r2, o) ∧ vs[h.1.toNat * r.sz + o]? = some (.slice none 0 0) ∧ k.h h.2.2 ≠ none ∧ vs' = vs.set (h.1.toNat * r.sz + o) (k.ν h.2.2)
def objR (F : Fx) (k : K) (id : Nat) : Ob → Prop
  | .box cs => ∃ vs T, k.w.heap[k.μ id]? = some (.cells vs.toArray T (0, 0)) ∧ relCs F k cs vs
  | .arr e r xs .no => ∃ vs, OwnsR k.w (F.bs id) e r.sz (k.ν id) xs.length vs ∧ RdRows k.w (k.ok F) r xs vs ∧ xs.length ≤ lim
  | .arr e r xs (.yes ns hs) => ∃ vs vs', OwnsR k.w (F.bs id) e r.sz (k.ν id) xs.length vs' ∧ OwnRows k.w (k.ok F) (F.bs id) r ns xs vs (k.nb id) ∧ xs.length ≤ lim ∧ ((ownB (k.ν id)).toList ++ k.nb id).Nodup ∧ Filled k r xs.length hs vs vs'
  | .imm r xs => Rd k.w (k.ok F) (.slice r) xs [k.ν id]
  | .gone => True
structure HeapOK (F : Fx) (k : K) : Prop where
  obj : ∀ id o, k.h id = some o → objR F k id o
  inj : ∀ id id' b, k.own id b → k.own id' b → id = id'
  rng : ∀ id b, k.own id b → (F.B ≤ b ∨ F.ext b) ∧ b < k.w.heap.size
  frame : ∀ b, b < F.B → ¬ F.ext b → k.w.heap[b]? = F.w0.heap[b]?
  size : F.B ≤ k.w.heap.size
  os : k.w.os = F.w0.os
  tape : k.w.tape = F.w0.tape
  output : k.w.output = F.w0.output
structure Le (F : Fx) (k k' : K) : Prop where
  size : k.w.heap.size ≤ k'.w.heap.size
  ok : ∀ b, k.ok F b → k'.ok F b
  hp : ∀ b, k.ok F b → b < k.w.heap.size → k'.w.heap[b]? = k.w.heap[b]?
  box : ∀ id cs, k.h id = some (.box cs) → (∃ cs', k'.h id = some (.box cs')) ∧ k'.μ id = k.μ id
  arr : ∀ id e r xs d, k.h id = some (.arr e r xs d) → (∃ xs' d', k'.h id = some (.arr e r xs' d') ∧ xs'.length = xs.length ∧ k'.ν id = k.ν id) ∨ (∃ r' xs', k'.h id = some (.imm r' xs') ∧ k'.ν id = k.ν id) ∨ k'.h id = some .gone
  imm : ∀ id r xs, k.h id = some (.imm r xs) → ∃ r' xs', k'.h id = some (.imm r' xs') ∧ k'.ν id = k.ν id
  gone : ∀ id, k.h id = some .gone → k'.h id = some .gone
theorem Le.refl (F : Fx) (k : K) : Le F k k :=
  ⟨Nat.le_refl _, fun _ h => h, fun _ _ _ => rfl, fun _ _ h => ⟨⟨_, h⟩, rfl⟩, fun _ _ _ _ _ h => .inl ⟨_, _, h, rfl, rfl⟩, fun _ _ _ h => ⟨_, _, h, rfl⟩, fun _ h => h⟩
theorem Le.trans {F : Fx} {a b c : K} (h : Le F a b) (g : Le F b c) : Le F a c := by
  refine ⟨Nat.le_trans h.size g.size, fun x hx => g.ok x (h.ok x hx), fun x hx hlt => (g.hp x (h.ok x hx) (Nat.lt_of_lt_of_le hlt h.size)).trans (h.hp x hx hlt), fun id cs hc => ?_, fun id e r xs d hc => ?_, fun id r xs hc => ?_, fun id hc => g.gone id (h.gone id hc)⟩
  · obtain ⟨⟨cs', h1⟩, h2⟩ := h.box id cs hc
    obtain ⟨h3, h4⟩ := g.box id cs' h1
    exact ⟨h3, h4.trans h2⟩
  · rcases h.arr id e r xs d hc with ⟨xs', d', h1, h3, h2⟩ | ⟨r', xs', h1, h2⟩ | h1
    · rcases g.arr id e r xs' d' h1 with ⟨xs2, d2, h4, h6, h5⟩ | ⟨r2, xs2, h4, h5⟩ | h4
      · exact .inl ⟨xs2, d2, h4, h6.trans h3, h5.trans h2⟩
      · exact .inr (.inl ⟨r2, xs2, h4, h5.trans h2⟩)
      · exact .inr (.inr h4)
    · obtain ⟨r2, xs2, h4, h5⟩ := g.imm id r' xs' h1
      exact .inr (.inl ⟨r2, xs2, h4, h5.trans h2⟩)
    · exact .inr (.inr (g.gone id h1))
  · obtain ⟨r', xs', h1, h2⟩ := h.imm id r xs hc
    obtain ⟨r2, xs2, h3, h4⟩ := g.imm id r' xs' h1
    exact ⟨r2, xs2, h3, h4.trans h2⟩
theorem Le.rd {F : Fx} {k k' : K} (h : Le F k k') {t : Ty} {x : t.den} {vs : List Value} (hr : Rd k.w (k.ok F) t x vs) : Rd k'.w (k'.ok F) t x vs := hr.mono h.ok h.hp
theorem Le.rdRows {F : Fx} {k k' : K} (h : Le F k k') {r : Ty} {xs : List r.den} {vs : List Value} (hr : RdRows k.w (k.ok F) r xs vs) : RdRows k'.w (k'.ok F) r xs vs := hr.mono h.ok h.hp
theorem Le.c {F : Fx} {k k' : K} (h : Le F k k') : ∀ {c : C} {v : Value}, relC F k c v → relC F k' c v
  | .u, _, _ => trivial
  | .nd, _, hr => hr
  | .v t x, _, hr => h.rd hr
  | .emp, _, hr => hr
  | .mt, _, hr => hr
  | .arr id, v, hr => by
    simp only [relC] at hr ⊢
    obtain ⟨hsl, hr⟩ := hr
    refine ⟨hsl, ?_⟩
    split at hr
    · rename_i e r xs d he
      rcases h.arr id e r xs d he with ⟨xs', d', h1, _, h2⟩ | ⟨r', xs', h1, h2⟩ | h1
      · rw [h1]; exact hr.trans h2.symm
      · rw [h1]; exact hr.trans h2.symm
      · rw [h1]; trivial
    · rename_i r xs he
      obtain ⟨r', xs', h1, h2⟩ := h.imm id r xs he
      rw [h1]; exact hr.trans h2.symm
    · rename_i he
      rw [h.gone id he]; trivial
    · exact hr.elim
  | .pd t x, v, hr => by
    obtain ⟨ad, vs, hv, hok, hrd, hc⟩ := hr
    refine ⟨ad, vs, hv, h.ok _ hok, h.rd hrd, ?_⟩
    cases vs with
    | nil => intro i v hi; simp at hi
    | cons v0 vs =>
      have h0 := hc 0 v0 rfl
      have hlt := World.block_lt_of_cell? k.w _ h0
      rw [add_block] at hlt
      exact hc.mono (h.hp _ hok hlt)
  | .pb id off, v, hr => by
    obtain ⟨⟨cs, hc⟩, hv⟩ := hr
    obtain ⟨h1, h2⟩ := h.box id cs hc
    exact ⟨h1, by rw [h2]; exact hv⟩
  | .pa id j p, v, hr => by
    simp only [relC] at hr ⊢
    obtain ⟨hsl, hr⟩ := hr
    refine ⟨hsl, ?_⟩
    cases ho : k.h id with
    | none => rw [ho] at hr; exact hr.elim
    | some o =>
      rw [ho] at hr
      cases o with
      | box cs => obtain ⟨⟨cs', h1⟩, _⟩ := h.box id cs ho; rw [h1]; trivial
      | arr e r xs d =>
        rcases h.arr id e r xs d ho with ⟨xs', d', h1, h3, h2⟩ | ⟨r', xs', h1, h2⟩ | h1
        · rw [h1]
          show 0 ≤ j ∧ j < (xs'.length : Int) ∧ _
          rw [h3, h2]
          exact hr
        · rw [h1]; trivial
        · rw [h1]; trivial
      | imm r xs => obtain ⟨_, _, h1, _⟩ := h.imm id r xs ho; rw [h1]; trivial
      | gone => rw [h.gone id ho]; trivial
  | .fn g caps, v, hr => by
    obtain ⟨hc, hv⟩ := hr
    refine ⟨fun id hi => ?_, ?_⟩
    · obtain ⟨cs, h1⟩ := hc id hi
      exact (h.box id cs h1).1
    · rw [hv]
      congr 2
      refine List.map_congr_left fun id hi => ?_
      obtain ⟨cs, h1⟩ := hc id hi
      rw [(h.box id cs h1).2]
theorem Le.cs {F : Fx} {k k' : K} (h : Le F k k') : ∀ {cs : List C} {vs : List Value}, relCs F k cs vs → relCs F k' cs vs
  | [], _, hr => hr
  | _ :: _, _, hr => by
    obtain ⟨v, vs', hv, h1, h2⟩ := hr
    exact ⟨v, vs', hv, h.c h1, h.cs h2⟩
theorem Le.v {F : Fx} {k k' : K} (h : Le F k k') : ∀ {c : V1} {v : Value}, relV F k c v → relV F k' c v
  | .one _, _, hr => h.c hr
  | .agg _, _, hr => by
    obtain ⟨vs, hv, h1⟩ := hr
    exact ⟨vs, hv, h.cs h1⟩
theorem Le.vs {F : Fx} {k k' : K} (h : Le F k k') : ∀ {cs : List V1} {vs : List Value}, relVs F k cs vs → relVs F k' cs vs
  | [], _, hr => hr
  | _ :: _, _, hr => by
    obtain ⟨v, vs', hv, h1, h2⟩ := hr
    exact ⟨v, vs', hv, h.v h1, h.vs h2⟩
theorem Le.a {F : Fx} {k k' : K} (h : Le F k k') : ∀ {c : AV} {v : Value}, relA F k c v → relA F k' c v
  | .w _, _, hr => h.v hr
  | .tup _, _, hr => by
    obtain ⟨vs, hv, h1⟩ := hr
    exact ⟨vs, hv, h.vs h1⟩
theorem relCs.length {F : Fx} {k : K} : ∀ {cs : List C} {vs : List Value}, relCs F k cs vs → vs.length = cs.length
  | [], _, h => by simp only [relCs] at h; subst h; rfl
  | _ :: _, _, h => by
    obtain ⟨v, vs', rfl, _, h2⟩ := h
    simp [h2.length]
theorem relCs.append {F : Fx} {k : K} : ∀ {cs ds : List C} {us vs : List Value}, relCs F k cs us → relCs F k ds vs → relCs F k (cs ++ ds) (us ++ vs)
  | [], _, _, _, h, g => by simp only [relCs] at h; subst h; simpa using g
  | _ :: _, _, _, _, h, g => by
    obtain ⟨v, vs', rfl, h1, h2⟩ := h
    exact ⟨v, vs' ++ _, rfl, h1, h2.append g⟩
theorem relCs.split {F : Fx} {k : K} : ∀ {cs ds : List C} {vs : List Value}, relCs F k (cs ++ ds) vs → ∃ u v, vs = u ++ v ∧ relCs F k cs u ∧ relCs F k ds v
  | [], _, vs, h => ⟨[], vs, rfl, rfl, h⟩
  | _ :: _, _, _, h => by
    obtain ⟨v, vs', rfl, h1, h2⟩ := h
    obtain ⟨u, w, rfl, h3, h4⟩ := relCs.split h2
    exact ⟨v :: u, w, rfl, ⟨v, u, rfl, h1, h3⟩, h4⟩
theorem relCs.take {F : Fx} {k : K} {cs : List C} {vs : List Value} (h : relCs F k cs vs) (n : Nat) : relCs F k (cs.take n) (vs.take n) ∧ relCs F k (cs.drop n) (vs.drop n) := by
  induction cs generalizing vs n with
  | nil =>
    simp only [relCs] at h
    subst h
    simp [relCs]
  | cons c cs ih =>
    cases n with
    | zero => exact ⟨by simp [relCs], by simpa using h⟩
    | succ n =>
      obtain ⟨v, vs', rfl, h1, h2⟩ := h
      exact ⟨⟨v, _, rfl, h1, (ih h2 n).1⟩, (ih h2 n).2⟩
theorem relCs.at {F : Fx} {k : K} {cs : List C} {vs : List Value} (h : relCs F k cs vs) (j : Nat) (c : C) (hj : cs[j]? = some c) : ∃ v, vs[j]? = some v ∧ relC F k c v := by
  induction cs generalizing vs j with
  | nil => simp at hj
  | cons d ds ih =>
    obtain ⟨v, vs', rfl, h1, h2⟩ := h
    cases j with
    | zero => simp at hj; subst hj; exact ⟨v, rfl, h1⟩
    | succ j => simpa using ih h2 j (by simpa using hj)
theorem relC.oneCell {F : Fx} {k : K} : ∀ {c : C} {v : Value}, relC F k c v → c.known = true → v.oneCell' = true
  | .u, _, _, h => by simp [C.known] at h
  | .nd, _, _, h => by simp [C.known] at h
  | .v t x, v, h, _ => h.one v (by simp)
  | .emp, _, h, _ => by cases h; rfl
  | .mt, _, h, _ => by obtain ⟨a, rfl⟩ := h; rfl
  | .arr id, v, h, _ => by obtain ⟨⟨a, n, c, rfl⟩, _⟩ := h; rfl
  | .pd t x, _, h, _ => by obtain ⟨ad, vs, rfl, _⟩ := h; rfl
  | .pb id off, _, h, _ => by obtain ⟨_, rfl⟩ := h; rfl
  | .pa id j p, v, h, _ => by obtain ⟨⟨ad, rfl⟩, _⟩ := h; rfl
  | .fn g caps, _, h, _ => by obtain ⟨_, rfl⟩ := h; rfl
theorem relCs.oneCell {F : Fx} {k : K} : ∀ {cs : List C} {vs : List Value}, relCs F k cs vs → cs.all C.known = true → ∀ v ∈ vs, v.oneCell' = true
  | [], _, h, _ => by simp only [relCs] at h; subst h; simp
  | c :: cs, _, h, ha => by
    obtain ⟨v, vs', rfl, h1, h2⟩ := h
    simp only [List.all_cons, Bool.and_eq_true] at ha
    intro x hx
    rcases List.mem_cons.1 hx with rfl | hx
    · exact h1.oneCell ha.1
    · exact h2.oneCell ha.2 x hx
end Go.MC

set_option linter.unusedVariables false
set_option linter.unusedSimpArgs false
namespace Go.MC
open Go.RowKit
theorem ownsRow_block {w w' : World} {base e size n : Nat} {v : Value} {xs : List Value} (h : OwnsR w base e size v n xs) (hb : ∀ b, ownB v = some b → w'.heap[b]? = w.heap[b]?) : OwnsR w' base e size v n xs := by
  refine ⟨h.1, ?_⟩
  rcases h.2 with hn | ⟨g, cap, cur, rfl, hc, h1, h2, rest⟩
  · exact .inl hn
  · exact .inr ⟨g, cap, cur, rfl, hc, h1, by rw [hb g (ownB_pos hc)]; exact h2, rest⟩
theorem K.ok_lt {F : Fx} {k : K} (hk : HeapOK F k) {b : Nat} (h : k.ok F b) : b < k.w.heap.size := by
  rcases h with h | h
  · exact Nat.lt_of_lt_of_le (F.lt b h) hk.size
  · exact h.2.1
theorem K.ok_own {F : Fx} {k : K} (hk : HeapOK F k) {b : Nat} (h : k.ok F b) (id : Nat) : ¬ k.own id b := by
  intro ho
  rcases h with h | h
  · rcases (hk.rng id b ho).1 with h1 | h1
    · have := F.lt b h; omega
    · exact F.ne b h h1
  · exact h.2.2 id ho
theorem OwnRd.move {w w' : World} {ok ok' : Nat → Prop} {base : Nat} (ho : ∀ c, ok c → ok' c) (hw : ∀ c, ok c → c < w.heap.size → w'.heap[c]? = w.heap[c]?) :
    ∀ {t : Ty} {x : t.den} {es : List Nat} {vs : List Value} {es' os : List Nat}, OwnRd w ok base t x es vs es' os → (∀ b ∈ os, w'.heap[b]? = w.heap[b]?) → OwnRd w' ok' base t x es vs es' os
  | .bool, _, _, _, _, _, h, _ => h
  | .int _, _, _, _, _, _, h, _ => h
  | .str, _, _, _, _, _, h, _ => h
  | .slice r, _, _, _, _, _, h, hb => by
    obtain ⟨e, v, us, h1, h2, h3, h4, h5, rfl⟩ := h
    exact ⟨e, v, us, h1, h2, ownsRow_block h3 fun b hv => hb b (by rw [hv]; simp), h4.mono ho hw, h5, rfl⟩
  | .pair a b, _, _, _, _, _, h, hb => by
    obtain ⟨v1, v2, es1, o1, o2, rfl, h1, h2, rfl⟩ := h
    exact ⟨v1, v2, es1, o1, o2, rfl, h1.move ho hw fun b hb' => hb b (List.mem_append.2 (.inl hb')), h2.move ho hw fun b hb' => hb b (List.mem_append.2 (.inr hb')), rfl⟩
theorem OwnRd.mono {w : World} {ok ok' : Nat → Prop} {base : Nat} (ho : ∀ c, ok c → ok' c) {t : Ty} {x : t.den} {es : List Nat} {vs : List Value} {es' os : List Nat} (h : OwnRd w ok base t x es vs es' os) : OwnRd w ok' base t x es vs es' os :=
  h.move ho (fun _ _ _ => rfl) fun _ _ => rfl
theorem OwnRd.lt {w : World} {ok : Nat → Prop} {base : Nat} : ∀ {t : Ty} {x : t.den} {es : List Nat} {vs : List Value} {es' os : List Nat}, OwnRd w ok base t x es vs es' os → ∀ b ∈ os, base ≤ b ∧ b < w.heap.size
  | .bool, _, _, _, _, _, h, b, hb => by obtain ⟨_, rfl, _⟩ := h; simp at hb
  | .int _, _, _, _, _, _, h, b, hb => by obtain ⟨_, rfl, _⟩ := h; simp at hb
  | .str, _, _, _, _, _, h, b, hb => by obtain ⟨_, rfl, _⟩ := h; simp at hb
  | .slice r, _, _, _, _, _, h, b, hb => by
    obtain ⟨e, v, us, h1, h2, h3, h4, h5, rfl⟩ := h
    exact h3.lt b (by simpa using hb)
  | .pair _ _, _, _, _, _, _, h, b, hb => by
    obtain ⟨v1, v2, es1, o1, o2, rfl, h1, h2, rfl⟩ := h
    rcases List.mem_append.1 hb with hb | hb
    · exact h1.lt b hb
    · exact h2.lt b hb
theorem owns_rd {w : World} {ok : Nat → Prop} {base e : Nat} {r : Ty} {v : Value} {xs : List r.den} {vs : List Value} (hc : OwnsR w base e r.sz v xs.length vs) (hr : RdRows w ok r xs vs) (hl : xs.length ≤ lim) (hok : ∀ b, ownB v = some b → ok b) : Rd w ok (.slice r) xs [v] := by
  rcases hc.2 with ⟨a, hv, hn⟩ | ⟨g, cap, cur, hv, hcp, hB, hg, hnc, _⟩
  · rw [hv]
    have : xs = [] := List.eq_nil_of_length_eq_zero hn
    subst this
    exact Rd.nil r a 0
  · rw [hv]
    exact hr.slice ⟨g, 0, none⟩ cap (fun _ i v hi => hc.cells (g := g) (by rw [hv]; exact ownB_pos hcp) i v hi) (fun _ => hok g (by rw [hv]; exact ownB_pos hcp)) hnc hl
theorem OwnRd.rd {w : World} {ok ok' : Nat → Prop} {base : Nat} (ho : ∀ c, ok c → ok' c) : ∀ {t : Ty} {x : t.den} {es : List Nat} {vs : List Value} {es' os : List Nat}, OwnRd w ok base t x es vs es' os → (∀ b ∈ os, ok' b) → Rd w ok' t x vs
  | .bool, _, _, _, _, _, h, _ => h.2.2
  | .int _, _, _, _, _, _, h, _ => h.2.2
  | .str, _, _, _, _, _, h, _ => h.2.2
  | .slice r, _, _, _, _, _, h, hb => by
    obtain ⟨e, v, us, h1, rfl, h3, h4, h5, rfl⟩ := h
    exact owns_rd h3 (h4.mono ho fun _ _ _ => rfl) h5 fun b hv => hb b (by rw [hv]; simp)
  | .pair _ _, _, _, _, _, _, h, hb => by
    obtain ⟨v1, v2, es1, o1, o2, rfl, h1, h2, rfl⟩ := h
    exact ⟨v1, v2, rfl, h1.rd ho fun b hb' => hb b (List.mem_append.2 (.inl hb')), h2.rd ho fun b hb' => hb b (List.mem_append.2 (.inr hb'))⟩
theorem OwnRows.move {w w' : World} {ok ok' : Nat → Prop} {base : Nat} {r : Ty} {ns : List Nat} (ho : ∀ c, ok c → ok' c) (hw : ∀ c, ok c → c < w.heap.size → w'.heap[c]? = w.heap[c]?) :
    ∀ {xs : List r.den} {vs : List Value} {os : List Nat}, OwnRows w ok base r ns xs vs os → (∀ b ∈ os, w'.heap[b]? = w.heap[b]?) → OwnRows w' ok' base r ns xs vs os
  | [], _, _, h, _ => h
  | _ :: _, _, _, h, hb => by
    obtain ⟨v1, v2, o1, o2, rfl, h1, h2, rfl⟩ := h
    exact ⟨v1, v2, o1, o2, rfl, h1.move ho hw fun b hb' => hb b (List.mem_append.2 (.inl hb')), h2.move ho hw fun b hb' => hb b (List.mem_append.2 (.inr hb')), rfl⟩
theorem OwnRows.lt {w : World} {ok : Nat → Prop} {base : Nat} {r : Ty} {ns : List Nat} : ∀ {xs : List r.den} {vs : List Value} {os : List Nat}, OwnRows w ok base r ns xs vs os → ∀ b ∈ os, base ≤ b ∧ b < w.heap.size
  | [], _, _, h, b, hb => by obtain ⟨_, rfl⟩ := h; simp at hb
  | _ :: _, _, _, h, b, hb => by
    obtain ⟨v1, v2, o1, o2, rfl, h1, h2, rfl⟩ := h
    rcases List.mem_append.1 hb with hb | hb
    · exact h1.lt b hb
    · exact h2.lt b hb
theorem OwnRows.rd {w : World} {ok ok' : Nat → Prop} {base : Nat} {r : Ty} {ns : List Nat} (ho : ∀ c, ok c → ok' c) : ∀ {xs : List r.den} {vs : List Value} {os : List Nat}, OwnRows w ok base r ns xs vs os → (∀ b ∈ os, ok' b) → RdRows w ok' r xs vs
  | [], _, _, h, _ => h.1
  | _ :: _, _, _, h, hb => by
    obtain ⟨v1, v2, o1, o2, rfl, h1, h2, rfl⟩ := h
    exact ⟨v1, v2, rfl, h1.rd ho fun b hb' => hb b (List.mem_append.2 (.inl hb')), h2.rd ho fun b hb' => hb b (List.mem_append.2 (.inr hb'))⟩
theorem Rd.flat {w w' : World} {ok ok' : Nat → Prop} : ∀ {t : Ty} {x : t.den} {vs : List Value}, t.flat = true → Rd w ok t x vs → Rd w' ok' t x vs
  | .bool, _, _, _, h => h
  | .int _, _, _, _, h => h
  | .str, _, _, _, h => h
  | .slice _, _, _, hf, _ => by simp [Ty.flat] at hf
  | .pair a b, _, _, hf, h => by
    simp only [Ty.flat, Bool.and_eq_true] at hf
    obtain ⟨v1, v2, rfl, h1, h2⟩ := h
    exact ⟨v1, v2, rfl, h1.flat hf.1, h2.flat hf.2⟩
theorem own_no {k : K} {id e b : Nat} {r : Ty} {xs : List r.den} (h : k.h id = some (.arr e r xs)) : k.own id b ↔ ownB (k.ν id) = some b := by unfold K.own; rw [h]
theorem own_yes {k : K} {id e b : Nat} {r : Ty} {xs : List r.den} {ns : List Nat} {hs : Option (Int × List (Nat × Nat) × Nat)} (h : k.h id = some (.arr e r xs (.yes ns hs))) : k.own id b ↔ ownB (k.ν id) = some b ∨ b ∈ k.nb id := by unfold K.own; rw [h]
theorem own_block {k : K} {id e b : Nat} {r : Ty} {xs : List r.den} {d : Dp} (h : k.h id = some (.arr e r xs d)) (hb : ownB (k.ν id) = some b) : k.own id b := by
  cases d with
  | no => exact (own_no h).2 hb
  | yes ns hs => exact (own_yes h).2 (.inl hb)
theorem Le.stays {F : Fx} {k k' : K} (hle : Le F k k') {i : Nat} (hi : k.h i ≠ none) : k'.h i ≠ none := by
  cases hk : k.h i with
  | none => exact absurd hk hi
  | some ob =>
    cases ob with
    | box cs => obtain ⟨⟨cs', h3⟩, _⟩ := hle.box i cs hk; rw [h3]; simp
    | arr e2 r3 ys d2 =>
      rcases hle.arr i e2 r3 ys d2 hk with ⟨_, _, h3, _⟩ | ⟨_, _, h3, _⟩ | h3 <;> rw [h3] <;> simp
    | imm r3 ys => obtain ⟨_, _, h3, _⟩ := hle.imm i r3 ys hk; rw [h3]; simp
    | gone => rw [hle.gone i hk]; simp
theorem Filled.move {F : Fx} {k k' : K} (hle : Le F k k') (hν : ∀ id, k.h id ≠ none → k'.ν id = k.ν id) {r : Ty} {n : Nat} : ∀ {hs : Option (Int × List (Nat × Nat) × Nat)} {vs vs' : List Value}, Filled k r n hs vs vs' → Filled k' r n hs vs vs'
  | none, _, _, h => h
  | some _, _, _, h => by
    obtain ⟨r2, o, h1, h2, h3, h4, h5, h6⟩ := h
    exact ⟨r2, o, h1, h2, h3, h4, hle.stays h5, by rw [hν _ h5]; exact h6⟩
theorem HeapOK.step2 {F : Fx} {k k' : K} (hk : HeapOK F k) (hle : Le F k k')
    (hob : ∀ id o, k'.h id = some o → (k.h id = some o ∧ (∀ b, k.own id b → k'.w.heap[b]? = k.w.heap[b]?) ∧ k'.nb id = k.nb id) ∨ objR F k' id o)
    (hinj : ∀ id id' b, k'.own id b → k'.own id' b → id = id')
    (hrng : ∀ id b, k'.own id b → (F.B ≤ b ∨ F.ext b) ∧ b < k'.w.heap.size)
    (hfr : ∀ b, b < F.B → ¬ F.ext b → k'.w.heap[b]? = k.w.heap[b]?)
    (hos : k'.w.os = k.w.os) (ht : k'.w.tape = k.w.tape) (ho : k'.w.output = k.w.output)
    (hνo : ∀ id, k.h id ≠ none → k'.ν id = k.ν id := by intros; rfl) : HeapOK F k' := by
  refine ⟨fun id o h => ?_, hinj, hrng, fun b hb he => (hfr b hb he).trans (hk.frame b hb he), Nat.le_trans hk.size hle.size, hos.trans hk.os, ht.trans hk.tape, ho.trans hk.output⟩
  rcases hob id o h with ⟨h1, h2, hnb⟩ | h1
  · have hobj := hk.obj id o h1
    cases o with
    | box cs =>
      obtain ⟨vs, T, hc, hr⟩ := hobj
      obtain ⟨_, hμ⟩ := hle.box id cs h1
      refine ⟨vs, T, ?_, hle.cs hr⟩
      rw [hμ, h2 _ (by simp [K.own, h1])]
      exact hc
    | arr e r xs d =>
      have hν : k'.ν id = k.ν id := hνo id (by rw [h1]; simp)
      have hn : k'.nb id = k.nb id := hnb
      cases d with
      | no =>
        obtain ⟨vs, hc, hr, hl⟩ := hobj
        refine ⟨vs, ?_, hle.rdRows hr, hl⟩
        rw [hν]
        exact ownsRow_block hc fun b hb => h2 b (own_block h1 hb)
      | yes ns hs =>
        obtain ⟨vs, vs', hc, hr, hl, hd, hfl⟩ := hobj
        refine ⟨vs, vs', ?_, ?_, hl, ?_, hfl.move hle hνo⟩
        · rw [hν]
          exact ownsRow_block hc fun b hb => h2 b (own_block h1 hb)
        · rw [hn]
          exact hr.move hle.ok hle.hp fun b hb => h2 b ((own_yes h1).2 (.inr hb))
        · rw [hν, hn]; exact hd
    | imm r xs =>
      obtain ⟨_, _, _, hν⟩ := hle.imm id r xs h1
      show Rd _ _ _ _ [k'.ν id]
      rw [hν]
      exact hle.rd hobj
    | gone => trivial
  · exact h1
theorem HeapOK.step' {F : Fx} {k k' : K} (hk : HeapOK F k) (hle : Le F k k')
    (hob : ∀ id o, k'.h id = some o → (k.h id = some o ∧ ∀ b, k.own id b → k'.w.heap[b]? = k.w.heap[b]?) ∨ objR F k' id o)
    (hinj : ∀ id id' b, k'.own id b → k'.own id' b → id = id')
    (hrng : ∀ id b, k'.own id b → (F.B ≤ b ∨ F.ext b) ∧ b < k'.w.heap.size)
    (hfr : ∀ b, b < F.B → ¬ F.ext b → k'.w.heap[b]? = k.w.heap[b]?)
    (hos : k'.w.os = k.w.os) (ht : k'.w.tape = k.w.tape) (ho : k'.w.output = k.w.output)
    (hnb : ∀ id o, k'.h id = some o → k.h id = some o → k'.nb id = k.nb id := by intros; rfl) (hνo : ∀ id, k.h id ≠ none → k'.ν id = k.ν id := by intros; rfl) : HeapOK F k' :=
  hk.step2 hle (fun id o h => (hob id o h).imp (fun h1 => ⟨h1.1, h1.2, hnb id o h h1.1⟩) fun x => x) hinj hrng hfr hos ht ho hνo
theorem HeapOK.step {F : Fx} {k k' : K} (hk : HeapOK F k) (hle : Le F k k')
    (hob : ∀ id o, k'.h id = some o → (k.h id = some o ∧ ∀ b, k.own id b → k'.w.heap[b]? = k.w.heap[b]?) ∨ objR F k' id o)
    (hown : ∀ id b, k'.own id b → k.own id b ∨ (k.w.heap.size ≤ b ∧ b < k'.w.heap.size ∧ ∀ id', k'.own id' b → id' = id))
    (hfr : ∀ b, b < F.B → ¬ F.ext b → k'.w.heap[b]? = k.w.heap[b]?)
    (hsz : k.w.heap.size ≤ k'.w.heap.size) (hos : k'.w.os = k.w.os) (ht : k'.w.tape = k.w.tape) (ho : k'.w.output = k.w.output)
    (hnb : ∀ id o, k'.h id = some o → k.h id = some o → k'.nb id = k.nb id := by intros; rfl) (hνo : ∀ id, k.h id ≠ none → k'.ν id = k.ν id := by intros; rfl) : HeapOK F k' := by
  refine hk.step' hle hob (fun id id' b h h' => ?_) (fun id b h => ?_) hfr hos ht ho hnb hνo
  · rcases hown id b h with h1 | ⟨h1, _, h2⟩
    · rcases hown id' b h' with h3 | ⟨h3, _, h4⟩
      · exact hk.inj id id' b h1 h3
      · have := (hk.rng id b h1).2; omega
    · exact (h2 id' h').symm
  · rcases hown id b h with h1 | ⟨h1, h2, _⟩
    · have := hk.rng id b h1
      exact ⟨this.1, Nat.lt_of_lt_of_le this.2 hsz⟩
    · exact ⟨.inl (Nat.le_trans hk.size h1), h2⟩
theorem reownB {F : Fx} {k k' : K} (hk : HeapOK F k) (T : Nat → Prop)
    (hsz : k.w.heap.size ≤ k'.w.heap.size)
    (hfr : ∀ b, b < k.w.heap.size → (∀ id, T id → ¬ k.own id b) → k'.w.heap[b]? = k.w.heap[b]?)
    (hos : k'.w.os = k.w.os) (ht : k'.w.tape = k.w.tape) (ho : k'.w.output = k.w.output)
    (hoth : ∀ id, ¬ T id → k'.h id = k.h id ∧ k'.μ id = k.μ id ∧ k'.ν id = k.ν id ∧ k'.nb id = k.nb id)
    (hT : ∀ id, T id → k.h id = none ∨ (∃ e r xs d, k.h id = some (.arr e r xs d) ∧ k'.ν id = k.ν id ∧ ((∃ xs' d', k'.h id = some (.arr e r xs' d') ∧ xs'.length = xs.length) ∨ (∃ r' xs', k'.h id = some (.imm r' xs')) ∨ k'.h id = some .gone)) ∨ ∃ cs cs', k.h id = some (.box cs) ∧ k'.h id = some (.box cs') ∧ k'.μ id = k.μ id ∧ k'.ν id = k.ν id)
    (hown : ∀ id b, T id → k'.own id b → (∃ id', T id' ∧ k.own id' b) ∨ (k.w.heap.size ≤ b ∧ b < k'.w.heap.size))
    (hinj : ∀ id id' b, T id → T id' → k'.own id b → k'.own id' b → id = id')
    (hobj : Le F k k' → ∀ id o, T id → k'.h id = some o → objR F k' id o) : HeapOK F k' ∧ Le F k k' := by
  have oth : ∀ id b, ¬ T id → k'.own id b → k.own id b := by
    intro id b hn h
    obtain ⟨h1, h2, h3, h4⟩ := hoth id hn
    unfold K.own at h ⊢
    rw [h1] at h
    cases hi : k.h id with
    | none => rw [hi] at h; exact h
    | some o =>
      rw [hi] at h
      cases o with
      | box cs => dsimp only at h ⊢; rw [← h2]; exact h
      | arr e r xs d => cases d <;> dsimp only at h ⊢ <;> rw [← h3] <;> first | exact h | (rw [← h4]; exact h)
      | imm r xs => exact h
      | gone => exact h
  have hle : Le F k k' := by
    refine ⟨hsz, fun b hb => ?_, fun b hb hlt => hfr b hlt fun id _ => K.ok_own hk hb id, fun id cs h => ?_, fun id e r xs d h => ?_, fun id r xs h => ?_, fun id h => ?_⟩
    · rcases hb with hb | ⟨h1, h2, h3⟩
      · exact .inl hb
      · refine .inr ⟨h1, Nat.lt_of_lt_of_le h2 hsz, fun i hi => ?_⟩
        by_cases hTi : T i
        · rcases hown i b hTi hi with ⟨j, _, hj⟩ | ⟨hj, _⟩
          · exact h3 j hj
          · omega
        · exact h3 i (oth i b hTi hi)
    · by_cases hTi : T id
      · rcases hT id hTi with h1 | ⟨_, _, _, _, h1, _⟩ | ⟨cs1, cs2, h1, h2, h3, _⟩
        · rw [h] at h1; cases h1
        · rw [h] at h1; cases h1
        · exact ⟨⟨cs2, h2⟩, h3⟩
      · obtain ⟨h1, h2, _⟩ := hoth id hTi
        exact ⟨⟨cs, h1.trans h⟩, h2⟩
    · by_cases hTi : T id
      · rcases hT id hTi with h1 | ⟨e', r', xs', d', h1, h2, h3⟩ | ⟨_, _, h1, _⟩
        · rw [h] at h1; cases h1
        · rw [h] at h1
          cases h1
          rcases h3 with ⟨ys, d2, h4, h5⟩ | ⟨r2, ys, h4⟩ | h4
          · exact .inl ⟨ys, d2, h4, h5, h2⟩
          · exact .inr (.inl ⟨r2, ys, h4, h2⟩)
          · exact .inr (.inr h4)
        · rw [h] at h1; cases h1
      · obtain ⟨h1, _, h3, _⟩ := hoth id hTi
        exact .inl ⟨xs, d, h1.trans h, rfl, h3⟩
    · by_cases hTi : T id
      · rcases hT id hTi with h1 | ⟨_, _, _, _, h1, _⟩ | ⟨_, _, h1, _⟩ <;> rw [h] at h1 <;> cases h1
      · obtain ⟨h1, _, h3, _⟩ := hoth id hTi
        exact ⟨r, xs, h1.trans h, h3⟩
    · by_cases hTi : T id
      · rcases hT id hTi with h1 | ⟨_, _, _, _, h1, _⟩ | ⟨_, _, h1, _⟩ <;> rw [h] at h1 <;> cases h1
      · exact (hoth id hTi).1.trans h
  refine ⟨hk.step2 hle (fun id o h => ?_) (fun i j b h1 h2 => ?_) (fun i b h => ?_) (fun b hb he => hfr b (Nat.lt_of_lt_of_le hb hk.size) fun id _ h => ?_) hos ht ho (fun id h => ?_), hle⟩
  · by_cases hTi : T id
    · exact .inr (hobj hle id o hTi h)
    · obtain ⟨h1, _, _, h4⟩ := hoth id hTi
      refine .inl ⟨h1 ▸ h, fun b hb => hfr b (hk.rng id b hb).2 fun j hj h5 => ?_, h4⟩
      exact hTi (hk.inj id j b hb h5 ▸ hj)
  · by_cases hTi : T i
    · by_cases hTj : T j
      · exact hinj i j b hTi hTj h1 h2
      · have h3 := oth j b hTj h2
        rcases hown i b hTi h1 with ⟨l, hl, h4⟩ | ⟨h4, _⟩
        · exact absurd (hk.inj l j b h4 h3 ▸ hl) hTj
        · have := (hk.rng j b h3).2; omega
    · have h3 := oth i b hTi h1
      by_cases hTj : T j
      · rcases hown j b hTj h2 with ⟨l, hl, h4⟩ | ⟨h4, _⟩
        · exact absurd (hk.inj l i b h4 h3 ▸ hl) hTi
        · have := (hk.rng i b h3).2; omega
      · exact hk.inj i j b h3 (oth j b hTj h2)
  · by_cases hTi : T i
    · rcases hown i b hTi h with ⟨j, _, hj⟩ | ⟨h1, h2⟩
      · have := hk.rng j b hj
        exact ⟨this.1, Nat.lt_of_lt_of_le this.2 hsz⟩
      · exact ⟨.inl (Nat.le_trans hk.size h1), h2⟩
    · have := hk.rng i b (oth i b hTi h)
      exact ⟨this.1, Nat.lt_of_lt_of_le this.2 hsz⟩
  · rcases (hk.rng id b h).1 with h1 | h1
    · omega
    · exact he h1
  · by_cases hTi : T id
    · rcases hT id hTi with h1 | ⟨_, _, _, _, _, h2, _⟩ | ⟨_, _, _, _, _, h2⟩
      · exact absurd h1 h
      · exact h2
      · exact h2
    · exact (hoth id hTi).2.2.1
theorem reown {F : Fx} {k k' : K} (hk : HeapOK F k) (T : Nat → Prop)
    (hsz : k.w.heap.size ≤ k'.w.heap.size)
    (hfr : ∀ b, b < k.w.heap.size → (∀ id, T id → ¬ k.own id b) → k'.w.heap[b]? = k.w.heap[b]?)
    (hos : k'.w.os = k.w.os) (ht : k'.w.tape = k.w.tape) (ho : k'.w.output = k.w.output)
    (hoth : ∀ id, ¬ T id → k'.h id = k.h id ∧ k'.μ id = k.μ id ∧ k'.ν id = k.ν id ∧ k'.nb id = k.nb id)
    (hT : ∀ id, T id → k.h id = none ∨ ∃ e r xs d, k.h id = some (.arr e r xs d) ∧ k'.ν id = k.ν id ∧ ((∃ xs' d', k'.h id = some (.arr e r xs' d') ∧ xs'.length = xs.length) ∨ (∃ r' xs', k'.h id = some (.imm r' xs')) ∨ k'.h id = some .gone))
    (hown : ∀ id b, T id → k'.own id b → (∃ id', T id' ∧ k.own id' b) ∨ (k.w.heap.size ≤ b ∧ b < k'.w.heap.size))
    (hinj : ∀ id id' b, T id → T id' → k'.own id b → k'.own id' b → id = id')
    (hobj : Le F k k' → ∀ id o, T id → k'.h id = some o → objR F k' id o) : HeapOK F k' ∧ Le F k k' :=
  reownB hk T hsz hfr hos ht ho hoth (fun id h => (hT id h).imp (fun x => x) .inl) hown hinj hobj
theorem unpack_rel {F : Fx} {k : K} : ∀ {t : Ty} {x : t.den} {vs : List Value}, Rd k.w (k.ok F) t x vs → relCs F k (unpack t x) vs
  | .pair a b, x, _, h => by
    simp only [Rd] at h
    obtain ⟨v1, v2, rfl, h1, h2⟩ := h
    exact (unpack_rel h1).append (unpack_rel h2)
  | .bool, x, vs, h => by
    have hl := h.length
    match vs, hl with
    | [v], _ => exact ⟨v, [], rfl, h, rfl⟩
  | .int k, x, vs, h => by
    have hl := h.length
    match vs, hl with
    | [v], _ => exact ⟨v, [], rfl, h, rfl⟩
  | .str, x, vs, h => by
    have hl := h.length
    match vs, hl with
    | [v], _ => exact ⟨v, [], rfl, h, rfl⟩
  | .slice r, x, vs, h => by
    have hl := h.length
    match vs, hl with
    | [v], _ => exact ⟨v, [], rfl, h, rfl⟩
theorem castT_eq {t t' : Ty} {x : t'.den} {y : t.den} (h : castT t t' x = some y) : ∃ e : t' = t, y = e ▸ x := by
  unfold castT at h
  split at h
  · rename_i e; exact ⟨e, (Option.some.inj h).symm⟩
  · cases h
def Taken (k : K) (l : List Nat) : Prop := ∀ id ∈ l, ∃ e r xs d, k.h id = some (.arr e r xs d)
def K.okT (F : Fx) (k : K) (l : List Nat) (b : Nat) : Prop := k.ok F b ∨ ∃ id ∈ l, k.own id b
theorem okT_mono {F : Fx} {k : K} {l m : List Nat} (h : ∀ id ∈ l, id ∈ m) {b : Nat} (hb : k.okT F l b) : k.okT F m b := by
  rcases hb with hb | ⟨id, hi, ho⟩
  · exact .inl hb
  · exact .inr ⟨id, h id hi, ho⟩
def Frozen (k : K) (obs : List (Nat × Ob)) : Prop := ∀ p ∈ obs, ∃ e r xs d, k.h p.1 = some (.arr e r xs d) ∧ p.2 = .imm r xs ∧ d.rd = true ∧ isPar p.1 = false
theorem arr_rd {F : Fx} {k : K} (hk : HeapOK F k) {id e : Nat} {r : Ty} {xs : List r.den} {d : Dp} (h : k.h id = some (.arr e r xs d)) (hd : d.rd = true) : Rd k.w (k.okT F [id]) (.slice r) xs [k.ν id] := by
  have hb : ∀ b, ownB (k.ν id) = some b → k.okT F [id] b := fun b hb => .inr ⟨id, by simp, own_block h hb⟩
  cases d with
  | no =>
    obtain ⟨vs, hc, hr, hl⟩ := hk.obj id _ h
    exact owns_rd hc (hr.mono (fun b hb => .inl hb) (fun _ _ _ => rfl)) hl hb
  | yes ns hs =>
    cases hs with
    | some x => cases hd
    | none =>
      obtain ⟨vs, vs', hc, hr, hl, _, hfl⟩ := hk.obj id _ h
      obtain rfl : vs' = vs := hfl
      exact owns_rd hc (hr.rd (fun b hb => .inl hb) fun b hb => .inr ⟨id, by simp, (own_yes h).2 (.inr hb)⟩) hl hb
theorem ownsRow_base {w : World} {base base' e size n : Nat} {v : Value} {xs : List Value} (h : OwnsR w base e size v n xs) (hb : base' ≤ base) : OwnsR w base' e size v n xs := by
  refine ⟨h.1, ?_⟩
  rcases h.2 with hn | ⟨g, cap, cur, rfl, hc, h1, rest⟩
  · exact .inl hn
  · exact .inr ⟨g, cap, cur, rfl, hc, Nat.le_trans hb h1, rest⟩
theorem OwnRd.base {w : World} {ok : Nat → Prop} {base base' : Nat} (hb : base' ≤ base) : ∀ {t : Ty} {x : t.den} {es : List Nat} {vs : List Value} {es' os : List Nat}, OwnRd w ok base t x es vs es' os → OwnRd w ok base' t x es vs es' os
  | .bool, _, _, _, _, _, h => h
  | .int _, _, _, _, _, _, h => h
  | .str, _, _, _, _, _, h => h
  | .slice r, _, _, _, _, _, h => by
    obtain ⟨e, v, us, h1, h2, h3, h4, h5, h6⟩ := h
    exact ⟨e, v, us, h1, h2, ownsRow_base h3 hb, h4, h5, h6⟩
  | .pair _ _, _, _, _, _, _, h => by
    obtain ⟨v1, v2, es1, o1, o2, rfl, h1, h2, rfl⟩ := h
    exact ⟨v1, v2, es1, o1, o2, rfl, h1.base hb, h2.base hb, rfl⟩
theorem OwnRows.base {w : World} {ok : Nat → Prop} {base base' : Nat} (hb : base' ≤ base) {r : Ty} {ns : List Nat} : ∀ {xs : List r.den} {vs : List Value} {os : List Nat}, OwnRows w ok base r ns xs vs os → OwnRows w ok base' r ns xs vs os
  | [], _, _, h => h
  | _ :: _, _, _, h => by
    obtain ⟨v1, v2, o1, o2, rfl, h1, h2, rfl⟩ := h
    exact ⟨v1, v2, o1, o2, rfl, h1.base hb, h2.base hb, rfl⟩
theorem own_row {F : Fx} {k : K} (hk : HeapOK F k) {id e : Nat} {r : Ty} {xs : List r.den} {d : Dp} (h : k.h id = some (.arr e r xs d)) : ∃ vs, OwnsR k.w (F.bs id) e r.sz (k.ν id) xs.length vs ∧ xs.length ≤ lim := by
  cases d with
  | no => obtain ⟨vs, hc, _, hl⟩ := hk.obj id _ h; exact ⟨vs, hc, hl⟩
  | yes ns hs => obtain ⟨vs, vs', hc, _, hl, _⟩ := hk.obj id _ h; exact ⟨vs', hc, hl⟩
theorem tells_bind {α β : Type} {m : M α} {f : α → M β} {S : St} {b : β} {R : List Nat} (hm : Good m) (hf : ∀ a, Good (f a)) (h : Tells (M.bind m f) S b R) : ∃ a R1 R2, Tells m S a R1 ∧ Tells (f a) S b R2 ∧ R = R2 ++ R1 := by
  have h0 := h S (fun _ _ => Agree.refl _ _) (β × List Nat) [] (fun a L => some (a, L))
  have h1 : m (β × List Nat) S [] (fun a L' => (f a) (β × List Nat) S L' (fun a L => some (a, L))) = some (b, R ++ []) := (run_bind m f _ S [] _).symm.trans h0
  obtain ⟨a, R1, ht, h2⟩ := hm.tells h1
  obtain ⟨b', R2, ht2, h3⟩ := (hf a).tells h2
  have h4 := Option.some.inj h3
  simp only [List.append_nil, Prod.mk.injEq] at h4
  obtain ⟨rfl, h5⟩ := h4
  exact ⟨a, R1, R2, ht, ht2, h5.symm⟩
theorem tells_pure {α : Type} {a b : α} {S : St} {R : List Nat} (h : Tells (M.pure a) S b R) : b = a ∧ R = [] := by
  have h0 := h S (fun _ _ => Agree.refl _ _) (α × List Nat) [] (fun a L => some (a, L))
  have := Option.some.inj h0
  simp only [List.append_nil, Prod.mk.injEq] at this
  exact ⟨this.1.symm, this.2.symm⟩
theorem tells_fail {α : Type} {b : α} {S : St} {R : List Nat} (h : Tells (fail : M α) S b R) : False := by
  have h0 := h S (fun _ _ => Agree.refl _ _) (α × List Nat) [] (fun a L => some (a, L))
  cases h0
theorem tells_guard {c : Bool} {S : St} {u : Unit} {R : List Nat} (h : Tells (guardB c) S u R) : c = true ∧ R = [] := by
  have h0 := h S (fun _ _ => Agree.refl _ _) (Unit × List Nat) [] (fun a L => some (a, L))
  cases c with
  | false => cases h0
  | true =>
    have := Option.some.inj h0
    simp only [List.append_nil, Prod.mk.injEq] at this
    exact ⟨rfl, this.2.symm⟩
theorem tells_ofOpt {α : Type} {o : Option α} {S : St} {a : α} {R : List Nat} (h : Tells (ofOpt o) S a R) : o = some a ∧ R = [] := by
  cases o with
  | none => exact (tells_fail h).elim
  | some b => obtain ⟨h1, h2⟩ := tells_pure h; exact ⟨by rw [h1], h2⟩
theorem tells_rdS {i : Nat} {S : St} {v : AV} {R : List Nat} (h : Tells (rdS i) S v R) : v = lkF S.fr i ∧ R = [2 * i] := by
  have h0 := h S (fun _ _ => Agree.refl _ _) (AV × List Nat) [] (fun a L => some (a, L))
  have := Option.some.inj h0
  simp only [List.append_nil, Prod.mk.injEq] at this
  exact ⟨this.1.symm, this.2.symm⟩
theorem tells_rdO {i : Nat} {S : St} {v : Option Ob} {R : List Nat} (h : Tells (rdO i) S v R) : v = lkH S.H i ∧ R = [2 * i + 1] := by
  have h0 := h S (fun _ _ => Agree.refl _ _) (Option Ob × List Nat) [] (fun a L => some (a, L))
  have := Option.some.inj h0
  simp only [List.append_nil, Prod.mk.injEq] at this
  exact ⟨this.1.symm, this.2.symm⟩
theorem packC_sound {F : Fx} {k : K} (hk : HeapOK F k) {S : St} (hS : k.h = lkH S.H) {fz : Bool} {t : Ty} {c : C} {x : t.den} {obs : List (Nat × Ob)} {R : List Nat}
    (h : Tells (packC fz t c) S (x, obs) R) {v : Value} (hv : relC F k c v) : ∃ l, Taken k l ∧ Rd k.w (k.okT F l) t x [v] ∧ Frozen k obs ∧ (fz = true → ∀ id ∈ l, id ∈ obs.map (·.1)) := by
  cases c with
  | v t' x' =>
    unfold packC at h
    obtain ⟨y, R1, R2, h1, h2, _⟩ := tells_bind (Good.ofOpt _) (fun _ => Good.pure _) h
    obtain ⟨h3, _⟩ := tells_pure h2
    obtain ⟨rfl, rfl⟩ := Prod.mk.inj h3
    obtain ⟨h4, _⟩ := tells_ofOpt h1
    obtain ⟨rfl, rfl⟩ := castT_eq h4
    exact ⟨[], fun _ h => by simp at h, hv.mono (fun b hb => .inl hb) (fun _ _ _ => rfl), fun _ h => by simp at h, fun _ _ h => by simp at h⟩
  | mt =>
    cases t with
    | slice r =>
      obtain ⟨h3, _⟩ := tells_pure h
      obtain ⟨rfl, rfl⟩ := Prod.mk.inj h3
      obtain ⟨a, rfl⟩ := hv
      exact ⟨[], fun _ h => by simp at h, Rd.nil r a 0, fun _ h => by simp at h, fun _ _ h => by simp at h⟩
    | _ => exact (tells_fail h).elim
  | emp =>
    cases t with
    | slice r =>
      obtain ⟨h3, _⟩ := tells_pure h
      obtain ⟨rfl, rfl⟩ := Prod.mk.inj h3
      cases hv
      exact ⟨[], fun _ h => by simp at h, Rd.nil r none 0, fun _ h => by simp at h, fun _ _ h => by simp at h⟩
    | _ => exact (tells_fail h).elim
  | arr id =>
    unfold packC at h
    obtain ⟨o, R1, R2, h1, h2, _⟩ := tells_bind (Good.rdO _) (fun o => Good.all _) h
    obtain ⟨rfl, _⟩ := tells_rdO h1
    obtain ⟨_, hv⟩ := hv
    rw [← hS] at h2
    cases ho : k.h id with
    | none => rw [ho] at h2; exact (tells_fail h2).elim
    | some o =>
      rw [ho] at h2 hv
      cases o with
      | box cs => exact (tells_fail h2).elim
      | gone => exact (tells_fail h2).elim
      | arr e r xs d =>
        have main : d.rd = true → Tells (M.bind (guardB (!(fz && isPar id))) fun _ => M.bind (ofOpt (castT t (.slice r) xs)) fun x => M.pure (x, bif fz then [(id, Ob.imm r xs)] else [])) S (x, obs) R2 →
            ∃ l, Taken k l ∧ Rd k.w (k.okT F l) t x [v] ∧ Frozen k obs ∧ (fz = true → ∀ id ∈ l, id ∈ obs.map (·.1)) := by
          intro hdr h2
          obtain ⟨_, R1, R2, hg, h2, _⟩ := tells_bind (Good.guard _) (fun _ => Good.all _) h2
          have hg := (tells_guard hg).1
          obtain ⟨y, R1, R2, h1, h2, _⟩ := tells_bind (Good.ofOpt _) (fun _ => Good.pure _) h2
          obtain ⟨h3, _⟩ := tells_pure h2
          obtain ⟨rfl, rfl⟩ := Prod.mk.inj h3
          obtain ⟨h4, _⟩ := tells_ofOpt h1
          obtain ⟨rfl, rfl⟩ := castT_eq h4
          obtain rfl : v = k.ν id := hv
          refine ⟨[id], fun i hi => ?_, arr_rd hk ho hdr, ?_, ?_⟩
          · simp at hi; subst hi; exact ⟨e, r, _, d, ho⟩
          · intro p hp
            cases fz with
            | false => simp at hp
            | true => simp at hp; subst hp; exact ⟨e, r, _, d, ho, rfl, hdr, by simpa using hg⟩
          · intro hf i hi
            subst hf
            simpa using hi
        cases d with
        | no => exact main rfl h2
        | yes ns hs =>
          cases hs with
          | none => exact main rfl h2
          | some x => exact (tells_fail h2).elim
      | imm r xs =>
        obtain ⟨y, R1, R2, h1, h2, _⟩ := tells_bind (Good.ofOpt _) (fun _ => Good.pure _) h2
        obtain ⟨h3, _⟩ := tells_pure h2
        obtain ⟨rfl, rfl⟩ := Prod.mk.inj h3
        obtain ⟨h4, _⟩ := tells_ofOpt h1
        obtain ⟨rfl, rfl⟩ := castT_eq h4
        obtain rfl : v = k.ν id := hv
        have hobj := hk.obj id _ ho
        simp only [objR] at hobj
        exact ⟨[], fun _ h => by simp at h, hobj.mono (fun b hb => .inl hb) (fun _ _ _ => rfl), fun _ h => by simp at h, fun _ _ h => by simp at h⟩
  | _ => exact (tells_fail h).elim
theorem pack1_sound {F : Fx} {k : K} (hk : HeapOK F k) {S : St} (hS : k.h = lkH S.H) {fz : Bool} {t : Ty} {cs rest : List C} {x : t.den} {obs : List (Nat × Ob)} {R : List Nat}
    (h : Tells (pack1 fz t cs) S (x, rest, obs) R) {vs : List Value} (hv : relCs F k cs vs) :
    ∃ l u v, vs = u ++ v ∧ relCs F k rest v ∧ Taken k l ∧ Rd k.w (k.okT F l) t x u ∧ Frozen k obs ∧ (fz = true → ∀ id ∈ l, id ∈ obs.map (·.1)) := by
  cases cs with
  | nil => exact (tells_fail h).elim
  | cons c cs =>
    unfold pack1 at h
    obtain ⟨p, R1, R2, h1, h2, _⟩ := tells_bind (good_packC _ _ _) (fun _ => Good.pure _) h
    obtain ⟨h3, _⟩ := tells_pure h2
    obtain ⟨rfl, h4⟩ := Prod.mk.inj h3
    obtain ⟨rfl, rfl⟩ := Prod.mk.inj h4
    obtain ⟨v, vs', rfl, hv1, hv2⟩ := hv
    obtain ⟨l, hl, hr, hf, hz⟩ := packC_sound hk hS (x := p.1) (obs := p.2) h1 hv1
    exact ⟨l, [v], vs', rfl, hv2, hl, hr, hf, hz⟩
theorem pack_sound {F : Fx} {k : K} (hk : HeapOK F k) {S : St} (hS : k.h = lkH S.H) {fz : Bool} : ∀ {t : Ty} {cs rest : List C} {x : t.den} {obs : List (Nat × Ob)} {R : List Nat}
    (h : Tells (pack fz t cs) S (x, rest, obs) R) {vs : List Value} (hv : relCs F k cs vs),
    ∃ l u v, vs = u ++ v ∧ relCs F k rest v ∧ Taken k l ∧ Rd k.w (k.okT F l) t x u ∧ Frozen k obs ∧ (fz = true → ∀ id ∈ l, id ∈ obs.map (·.1))
  | .pair a b, cs, rest, x, obs, R, h, vs, hv => by
    unfold pack at h
    obtain ⟨p, R1, R2, h1, h2, _⟩ := tells_bind (good_pack _ _ _) (fun _ => Good.bind (good_pack _ _ _) fun _ => Good.pure _) h
    obtain ⟨q, R3, R4, h3, h4, _⟩ := tells_bind (good_pack _ _ _) (fun _ => Good.pure _) h2
    obtain ⟨h5, _⟩ := tells_pure h4
    obtain ⟨rfl, h6⟩ := Prod.mk.inj h5
    obtain ⟨rfl, rfl⟩ := Prod.mk.inj h6
    obtain ⟨l1, u1, v1, rfl, hr1, ht1, hd1, hf1, hz1⟩ := pack_sound hk hS (x := p.1) (rest := p.2.1) (obs := p.2.2) h1 hv
    obtain ⟨l2, u2, v2, rfl, hr2, ht2, hd2, hf2, hz2⟩ := pack_sound hk hS (x := q.1) (rest := q.2.1) (obs := q.2.2) h3 hr1
    refine ⟨l1 ++ l2, u1 ++ u2, v2, by simp, hr2, fun id hi => ?_, ?_, fun z hz => ?_, fun hf id hi => ?_⟩
    · rcases List.mem_append.1 hi with hi | hi
      · exact ht1 id hi
      · exact ht2 id hi
    · exact ⟨u1, u2, rfl, hd1.mono (fun b hb => okT_mono (fun i hi => List.mem_append.2 (.inl hi)) hb) (fun _ _ _ => rfl), hd2.mono (fun b hb => okT_mono (fun i hi => List.mem_append.2 (.inr hi)) hb) (fun _ _ _ => rfl)⟩
    · rcases List.mem_append.1 hz with hz | hz
      · exact hf2 z hz
      · exact hf1 z hz
    · rw [List.map_append]
      rcases List.mem_append.1 hi with hi | hi
      · exact List.mem_append.2 (.inr (hz1 hf id hi))
      · exact List.mem_append.2 (.inl (hz2 hf id hi))
  | .slice r, cs, rest, x, obs, R, h, vs, hv => by unfold pack at h; exact pack1_sound hk hS h hv
  | .bool, cs, rest, x, obs, R, h, vs, hv => by unfold pack at h; exact pack1_sound hk hS h hv
  | .int _, cs, rest, x, obs, R, h, vs, hv => by unfold pack at h; exact pack1_sound hk hS h hv
  | .str, cs, rest, x, obs, R, h, vs, hv => by unfold pack at h; exact pack1_sound hk hS h hv
theorem lkH_append (l H : List (Nat × Ob)) (i : Nat) : lkH (l ++ H) i = (lkH l i).or (lkH H i) := by
  induction l with
  | nil => simp [lkH]
  | cons p l ih =>
    obtain ⟨j, o⟩ := p
    simp only [List.cons_append, lkH]
    cases h : Nat.beq j i
    · simpa using ih
    · simp
theorem lkH_some {l : List (Nat × Ob)} {i : Nat} {o : Ob} (h : lkH l i = some o) : (i, o) ∈ l := by
  induction l with
  | nil => simp [lkH] at h
  | cons p l ih =>
    obtain ⟨j, o'⟩ := p
    simp only [lkH] at h
    cases hj : Nat.beq j i
    · rw [hj] at h; exact List.mem_cons.2 (.inr (ih (by simpa using h)))
    · rw [hj] at h
      have e := Nat.eq_of_beq_eq_true hj
      simp at h
      subst e h
      exact List.mem_cons_self ..
theorem lkH_mem {l : List (Nat × Ob)} {i : Nat} (h : i ∈ l.map (·.1)) : ∃ o, lkH l i = some o := by
  induction l with
  | nil => simp at h
  | cons p l ih =>
    obtain ⟨j, o'⟩ := p
    simp only [lkH]
    cases hj : Nat.beq j i
    · have hne : i ≠ j := by rintro rfl; rw [Nat.beq_refl] at hj; cases hj
      simp only [List.map_cons, List.mem_cons] at h
      rcases h with h | h
      · exact absurd h hne
      · simpa using ih h
    · exact ⟨o', rfl⟩
def K.put (k : K) (obs : List (Nat × Ob)) : K := { k with h := fun i => (lkH obs i).or (k.h i) }
theorem put_h {k : K} {S : St} (hS : k.h = lkH S.H) (obs : List (Nat × Ob)) : (k.put obs).h = lkH (obs ++ S.H) := by
  funext i
  rw [lkH_append]
  simp [K.put, hS]
theorem freeze {F : Fx} {k : K} (hk : HeapOK F k) {obs : List (Nat × Ob)} (hf : Frozen k obs) :
    HeapOK F (k.put obs) ∧ Le F k (k.put obs) ∧ ∀ b, k.okT F (obs.map (·.1)) b → (k.put obs).ok F b := by
  have hget : ∀ i o, lkH obs i = some o → ∃ e r xs d, k.h i = some (.arr e r xs d) ∧ o = .imm r xs ∧ d.rd = true ∧ isPar i = false := fun i o ho => hf (i, o) (lkH_some ho)
  have hh : ∀ i, (lkH obs i = none ∧ (k.put obs).h i = k.h i) ∨ ∃ e r xs d, k.h i = some (.arr e r xs d) ∧ (k.put obs).h i = some (.imm r xs) ∧ i ∈ obs.map (·.1) ∧ d.rd = true := by
    intro i
    cases ho : lkH obs i with
    | none => exact .inl ⟨rfl, by simp [K.put, ho]⟩
    | some o =>
      obtain ⟨e, r, xs, d, h1, rfl, h2, _⟩ := hget i o ho
      exact .inr ⟨e, r, xs, d, h1, by simp [K.put, ho], List.mem_map.2 ⟨_, lkH_some ho, rfl⟩, h2⟩
  have hown : ∀ i b, (k.put obs).own i b → k.own i b ∧ i ∉ obs.map (·.1) := by
    intro i b hb
    rcases hh i with ⟨h1, h2⟩ | ⟨e, r, xs, d, h1, h2, _⟩
    · refine ⟨?_, fun hm => ?_⟩
      · unfold K.own at hb ⊢; rw [h2] at hb; exact hb
      · obtain ⟨o, ho⟩ := lkH_mem hm; rw [h1] at ho; cases ho
    · unfold K.own at hb; rw [h2] at hb; exact hb.elim
  have hok : ∀ b, k.okT F (obs.map (·.1)) b → (k.put obs).ok F b := by
    intro b hb
    rcases hb with hb | ⟨id, hi, ho⟩
    · rcases hb with hb | ⟨h1, h2, h3⟩
      · exact .inl hb
      · exact .inr ⟨h1, h2, fun i hi => h3 i (hown i b hi).1⟩
    · have hB := (hk.rng id b ho).1
      exact .inr ⟨hB, (hk.rng id b ho).2, fun i hi' => (hown i b hi').2 ((hk.inj i id b (hown i b hi').1 ho) ▸ hi)⟩
  have hle : Le F k (k.put obs) := by
    refine ⟨Nat.le_refl _, fun b hb => hok b (.inl hb), fun _ _ _ => rfl, fun id cs h => ?_, fun id e r xs d h => ?_, fun id r xs h => ?_, fun id h => ?_⟩
    · rcases hh id with ⟨_, h2⟩ | ⟨e, r, xs, d, h1, _⟩
      · exact ⟨⟨cs, h2.trans h⟩, rfl⟩
      · rw [h] at h1; cases h1
    · rcases hh id with ⟨_, h2⟩ | ⟨e', r', xs', d', h1, h2, _⟩
      · exact .inl ⟨xs, d, h2.trans h, rfl, rfl⟩
      · exact .inr (.inl ⟨r', xs', h2, rfl⟩)
    · rcases hh id with ⟨_, h2⟩ | ⟨e', r', xs', d', h1, h2, _⟩
      · exact ⟨r, xs, h2.trans h, rfl⟩
      · exact ⟨r', xs', h2, rfl⟩
    · rcases hh id with ⟨_, h2⟩ | ⟨e', r', xs', d', h1, h2, _⟩
      · exact h2.trans h
      · rw [h] at h1; cases h1
  refine ⟨hk.step hle (fun id o h => ?_) (fun id b h => .inl (hown id b h).1) (fun _ _ _ => rfl) (Nat.le_refl _) rfl rfl rfl, hle, hok⟩
  rcases hh id with ⟨_, h2⟩ | ⟨e, r, xs, d, h1, h2, hm, hdr⟩
  · exact .inl ⟨h2 ▸ h, fun _ _ => rfl⟩
  · rw [h2] at h
    cases h
    refine .inr ?_
    exact (arr_rd hk h1 hdr).mono (fun b hb => hok b (okT_mono (fun i hi => by simp at hi; subst hi; exact hm) hb)) (fun _ _ _ => rfl)
end Go.MC

set_option linter.unusedVariables false
set_option linter.unusedSimpArgs false
namespace Go.MC
open Go.RowKit
theorem lkH_one (id : Nat) (o : Ob) (i : Nat) : lkH [(id, o)] i = if i = id then some o else none := by
  simp only [lkH]
  by_cases h : i = id
  · subst h; simp [Nat.beq_refl]
  · have : Nat.beq id i = false := by
      cases hb : Nat.beq id i
      · rfl
      · exact absurd (Nat.eq_of_beq_eq_true hb).symm h
    simp [this, h]
def K.new (k : K) (ob : Obj) (id : Nat) (o : Ob) (v : Value) : K :=
  ⟨k.w.alloc ob, (k.put [(id, o)]).h, fun i => if i = id then k.w.heap.size else k.μ i, fun i => if i = id then v else k.ν i, fun i => if i = id then [] else k.nb i⟩
theorem new_h (k : K) (ob : Obj) (id : Nat) (o : Ob) (v : Value) (i : Nat) : (k.new ob id o v).h i = if i = id then some o else k.h i := by
  simp only [K.new, K.put, lkH_one]
  split <;> simp
theorem heap_old (w : World) (o : Obj) (b : Nat) (h : b < w.heap.size) : (w.alloc o).heap[b]? = w.heap[b]? := Below.heap_alloc w o b h
theorem new_step {F : Fx} {k : K} (hk : HeapOK F k) {ob : Obj} {id : Nat} {o : Ob} {v : Value} (hid : k.h id = none) (hv : ∀ b, ownB v = some b → b = k.w.heap.size)
    (hobj : Le F k (k.new ob id o v) → objR F (k.new ob id o v) id o) : HeapOK F (k.new ob id o v) ∧ Le F k (k.new ob id o v) := by
  have hown : ∀ i b, (k.new ob id o v).own i b → (i ≠ id ∧ k.own i b) ∨ (i = id ∧ b = k.w.heap.size) := by
    intro i b h
    unfold K.own at h
    rw [new_h] at h
    by_cases hi : i = id
    · subst hi
      rw [if_pos rfl] at h
      refine .inr ⟨rfl, ?_⟩
      cases o with
      | box cs => simp [K.new] at h; exact h.symm
      | arr e r xs d =>
        cases d with
        | no => simp [K.new] at h; exact hv b h
        | yes ns hs => simp [K.new] at h; exact hv b h
      | imm r xs => exact h.elim
      | gone => exact h.elim
    · rw [if_neg hi] at h
      refine .inl ⟨hi, ?_⟩
      unfold K.own
      simpa [K.new, hi] using h
  have hle : Le F k (k.new ob id o v) := by
    have hne : ∀ i o', k.h i = some o' → i ≠ id := by rintro i o' h rfl; rw [hid] at h; cases h
    refine ⟨by simp [K.new], fun b hb => ?_, fun b hb hlt => heap_old _ _ _ hlt, fun i cs h => ?_, fun i e r xs d h => ?_, fun i r xs h => ?_, fun i h => ?_⟩
    · rcases hb with hb | ⟨h1, h2, h3⟩
      · exact .inl hb
      · refine .inr ⟨h1, by simp [K.new]; omega, fun i hi => ?_⟩
        rcases hown i b hi with ⟨_, h4⟩ | ⟨_, h4⟩
        · exact h3 i h4
        · omega
    · exact ⟨⟨cs, by rw [new_h, if_neg (hne i _ h)]; exact h⟩, by simp [K.new, hne i _ h]⟩
    · exact .inl ⟨xs, d, by rw [new_h, if_neg (hne i _ h)]; exact h, rfl, by simp [K.new, hne i _ h]⟩
    · exact ⟨r, xs, by rw [new_h, if_neg (hne i _ h)]; exact h, by simp [K.new, hne i _ h]⟩
    · rw [new_h, if_neg (hne i _ h)]; exact h
  refine ⟨hk.step hle (fun i o' h => ?_) (fun i b h => ?_) (fun b hb _ => heap_old _ _ _ (Nat.lt_of_lt_of_le hb hk.size)) (by simp [K.new]) rfl rfl rfl (fun i o' _ h => by
      have : i ≠ id := by rintro rfl; rw [hid] at h; cases h
      simp [K.new, this]) (fun i h => by
      have : i ≠ id := by rintro rfl; exact h hid
      simp [K.new, this]), hle⟩
  · rw [new_h] at h
    by_cases hi : i = id
    · subst hi
      rw [if_pos rfl] at h
      cases h
      exact .inr (hobj hle)
    · rw [if_neg hi] at h
      exact .inl ⟨h, fun b hb => heap_old _ _ _ (hk.rng i b hb).2⟩
  · rcases hown i b h with ⟨_, h1⟩ | ⟨h1, h2⟩
    · exact .inl h1
    · refine .inr ⟨by omega, by simp [K.new]; omega, fun id' h' => ?_⟩
      rcases hown id' b h' with ⟨_, h3⟩ | ⟨h3, _⟩
      · have := (hk.rng id' b h3).2; omega
      · exact h3.trans h1.symm
theorem new_box {F : Fx} {k : K} (hk : HeapOK F k) {id : Nat} (hid : k.h id = none) {cs : List C} {vs : List Value} {T : TypeId} (hr : relCs F k cs vs) :
    ∃ k', k'.w = k.w.alloc (.cells vs.toArray T) ∧ k'.h = (k.put [(id, .box cs)]).h ∧ HeapOK F k' ∧ Le F k k' ∧ relC F k' (.pb id 0) (.pointer (some ⟨k.w.heap.size, 0, none⟩)) := by
  have h := new_step hk (ob := .cells vs.toArray T) (o := .box cs) (v := .slice none 0 0) hid (fun b h => by simp [ownB] at h) (fun hle => ?_)
  · refine ⟨k.new (.cells vs.toArray T) id (.box cs) (.slice none 0 0), rfl, rfl, h.1, h.2, ⟨cs, by rw [new_h, if_pos rfl]⟩, ?_⟩
    simp [K.new]
  · refine ⟨vs, T, ?_, hle.cs hr⟩
    simp only [K.new, if_pos]
    exact heap_alloc_new _ _
theorem new_arr' {F : Fx} {k : K} (hk : HeapOK F k) {id : Nat} (hid : k.h id = none) {e : TypeId} {r : Ty} {xs : List r.den} {d : Dp} {cur : Array Value} {cap : Nat} (hc : xs.length ≤ cap) (hm : cap ≤ maxLen) (hs : cur.size = cap * r.sz)
    (hl : xs.length ≤ lim) (hlen : (cur.toList.take (xs.length * r.sz)).length = xs.length * r.sz)
    (hd : (d = .no ∧ RdRows k.w (k.ok F) r xs (cur.toList.take (xs.length * r.sz))) ∨ ∃ ns, d = .yes ns ∧ OwnRows k.w (k.ok F) (F.bs id) r ns xs (cur.toList.take (xs.length * r.sz)) []) :
    ∃ k', k'.w = k.w.alloc (.cells cur e) ∧ k'.h = (k.put [(id, .arr e r xs d)]).h ∧ HeapOK F k' ∧ Le F k k' ∧ relC F k' (.arr id) (.slice (some ⟨k.w.heap.size, 0, none⟩) xs.length cap) := by
  have hown : ∀ hle : Le F k (k.new (.cells cur e) id (.arr e r xs d) (.slice (some ⟨k.w.heap.size, 0, none⟩) xs.length cap)), OwnsR (k.new (.cells cur e) id (.arr e r xs d) (.slice (some ⟨k.w.heap.size, 0, none⟩) xs.length cap)).w (F.bs id) e r.sz ((k.new (.cells cur e) id (.arr e r xs d) (.slice (some ⟨k.w.heap.size, 0, none⟩) xs.length cap)).ν id) xs.length (cur.toList.take (xs.length * r.sz)) := fun _ =>
    .of ⟨hlen, .inr ⟨k.w.heap.size, cap, cur, by simp [K.new], Nat.zero_le _, heap_alloc_new _ _, hc, hm, hs, rfl⟩⟩
  have h := new_step hk (ob := .cells cur e) (o := .arr e r xs d) (v := .slice (some ⟨k.w.heap.size, 0, none⟩) xs.length cap) hid (fun b h => by have := ownB_some h; simp [Value.ownBlock] at this; exact this.symm) (fun hle => ?_)
  · refine ⟨k.new (.cells cur e) id (.arr e r xs d) (.slice (some ⟨k.w.heap.size, 0, none⟩) xs.length cap), rfl, rfl, h.1, h.2, ⟨_, _, _, rfl⟩, ?_⟩
    rw [new_h, if_pos rfl]
    simp [K.new]
  · rcases hd with ⟨rfl, hr⟩ | ⟨ns, rfl, hr⟩
    · exact ⟨_, hown hle, hle.rdRows hr, hl⟩
    · have hnb : (k.new (.cells cur e) id (.arr e r xs (.yes ns)) (.slice (some ⟨k.w.heap.size, 0, none⟩) xs.length cap)).nb id = [] := by simp [K.new]
      refine ⟨_, _, hown hle, by rw [hnb]; exact hr.move hle.ok hle.hp fun _ h => by simp at h, hl, by rw [hnb, List.append_nil]; cases (ownB _) <;> simp, rfl⟩
theorem new_arr {F : Fx} {k : K} (hk : HeapOK F k) {id : Nat} (hid : k.h id = none) {e : TypeId} {r : Ty} {xs : List r.den} {cur : Array Value} {cap : Nat} (hc : xs.length ≤ cap) (hm : cap ≤ maxLen) (hs : cur.size = cap * r.sz)
    (hr : RdRows k.w (k.ok F) r xs (cur.toList.take (xs.length * r.sz))) (hl : xs.length ≤ lim) :
    ∃ k', k'.w = k.w.alloc (.cells cur e) ∧ k'.h = (k.put [(id, .arr e r xs)]).h ∧ HeapOK F k' ∧ Le F k k' ∧ relC F k' (.arr id) (.slice (some ⟨k.w.heap.size, 0, none⟩) xs.length cap) :=
  new_arr' hk hid hc hm hs hl hr.length (.inl ⟨rfl, hr⟩)
theorem set_step {F : Fx} {k : K} (hk : HeapOK F k) {id : Nat} {o o' : Ob} (hid : k.h id = some o) {w' : World} {b : Nat} (hb : k.own id b)
    (hkind : (∃ cs cs', o = .box cs ∧ o' = .box cs') ∨ (∃ e r xs ys d, o = .arr e r xs d ∧ o' = .arr e r ys d ∧ ys.length = xs.length))
    (hsz : w'.heap.size = k.w.heap.size) (hoth : ∀ c, c ≠ b → w'.heap[c]? = k.w.heap[c]?) (hos : w'.os = k.w.os) (ht : w'.tape = k.w.tape) (ho : w'.output = k.w.output)
    (hobj : Le F k ⟨w', (k.put [(id, o')]).h, k.μ, k.ν, k.nb⟩ → objR F ⟨w', (k.put [(id, o')]).h, k.μ, k.ν, k.nb⟩ id o') :
    HeapOK F ⟨w', (k.put [(id, o')]).h, k.μ, k.ν, k.nb⟩ ∧ Le F k ⟨w', (k.put [(id, o')]).h, k.μ, k.ν, k.nb⟩ := by
  have hh : ∀ i, (k.put [(id, o')]).h i = if i = id then some o' else k.h i := by
    intro i
    simp only [K.put, lkH_one]
    split <;> simp
  have hown : ∀ i c, (⟨w', (k.put [(id, o')]).h, k.μ, k.ν, k.nb⟩ : K).own i c ↔ k.own i c := by
    intro i c
    unfold K.own
    simp only [hh]
    by_cases hi : i = id
    · subst hi
      rw [if_pos rfl, hid]
      rcases hkind with ⟨cs, cs', rfl, rfl⟩ | ⟨e, r, xs, ys, d, rfl, rfl, _⟩
      · rfl
      · cases d <;> rfl
    · rw [if_neg hi]
  have hle : Le F k ⟨w', (k.put [(id, o')]).h, k.μ, k.ν, k.nb⟩ := by
    refine ⟨Nat.le_of_eq hsz.symm, fun c hc => ?_, fun c hc _ => hoth c ?_, fun i cs h => ?_, fun i e r xs d h => ?_, fun i r xs h => ?_, fun i h => ?_⟩
    · rcases hc with hc | ⟨h1, h2, h3⟩
      · exact .inl hc
      · exact .inr ⟨h1, by rw [hsz]; exact h2, fun i hi => h3 i ((hown i c).1 hi)⟩
    · rintro rfl
      exact K.ok_own hk hc id hb
    · by_cases hi : i = id
      · subst hi
        rw [hid] at h
        rcases hkind with ⟨cs, cs', rfl, rfl⟩ | ⟨e, r, xs, ys, d, rfl, rfl, _⟩
        · exact ⟨⟨cs', by rw [hh, if_pos rfl]⟩, rfl⟩
        · cases h
      · exact ⟨⟨cs, by rw [hh, if_neg hi]; exact h⟩, rfl⟩
    · by_cases hi : i = id
      · subst hi
        rw [hid] at h
        rcases hkind with ⟨cs, cs', rfl, rfl⟩ | ⟨e, r, xs, ys, d, rfl, rfl, hl⟩
        · cases h
        · cases h
          exact .inl ⟨ys, d, by rw [hh, if_pos rfl], hl, rfl⟩
      · exact .inl ⟨xs, d, by rw [hh, if_neg hi]; exact h, rfl, rfl⟩
    · by_cases hi : i = id
      · subst hi
        rw [hid] at h
        rcases hkind with ⟨cs, cs', rfl, rfl⟩ | ⟨e, r, xs, ys, d, rfl, rfl, hl⟩ <;> cases h
      · exact ⟨r, xs, by rw [hh, if_neg hi]; exact h, rfl⟩
    · by_cases hi : i = id
      · subst hi
        rw [hid] at h
        rcases hkind with ⟨cs, cs', rfl, rfl⟩ | ⟨e, r, xs, ys, d, rfl, rfl, hl⟩ <;> cases h
      · rw [hh, if_neg hi]; exact h
  refine ⟨hk.step hle (fun i o2 h => ?_) (fun i c h => .inl ((hown i c).1 h)) (fun c hc he => hoth c ?_) (Nat.le_of_eq hsz.symm) hos ht ho, hle⟩
  · by_cases hi : i = id
    · subst hi
      simp only [hh, if_pos] at h
      cases h
      exact .inr (hobj hle)
    · simp only [hh, if_neg hi] at h
      refine .inl ⟨h, fun c hc => hoth c ?_⟩
      rintro rfl
      exact hi (hk.inj i id c hc hb)
  · rintro rfl
    rcases (hk.rng id c hb).1 with h1 | h1
    · omega
    · exact he h1
theorem store_cells (P : Program) {w : World} {g off : Nat} {cur : List Value} {T : TypeId} (hg : w.heap[g]? = some (.cells cur.toArray T (0, 0))) {vs : List Value} (hfit : off + vs.length ≤ cur.length) (h1 : ∀ v ∈ vs, v.oneCell' = true) :
    ∃ w', (storeCells ⟨g, off, none⟩ vs).run P w = .ok () w' ∧ w'.heap[g]? = some (.cells (cur.take off ++ (vs ++ cur.drop (off + vs.length))).toArray T (0, 0)) ∧ w'.heap.size = w.heap.size ∧ (∀ c, c ≠ g → w'.heap[c]? = w.heap[c]?) ∧
      w'.os = w.os ∧ w'.tape = w.tape ∧ w'.output = w.output := by
  have h := run_storeCells_at P g off T vs 0 cur.toArray w hg (by simpa using hfit) h1
  simp only [Nat.add_zero] at h
  refine ⟨_, h, ?_, ?_, ?_, ?_, ?_, ?_⟩
  · have := setRow_heap w g cur.toArray (cur.toArray.toList.take off ++ vs ++ cur.toArray.toList.drop (off + vs.length)).toArray T (0, 0) hg
    simpa using this
  · simp [World.setRow]
  · intro c hc
    exact setRow_other w g c _ hc
  · rfl
  · rfl
  · rfl
end Go.MC

set_option linter.unusedVariables false
set_option linter.unusedSimpArgs false
namespace Go.MC
open Go.RowKit
structure TDok (P : Program) (t : Nat) (td : TD) : Prop where
  info : ∃ ti z, P.info? t = some ti ∧ ti.size = td.sz ∧ ti.bytes = td.bytes ∧ ti.zero = some z ∧ z.cells.size = td.sz ∧ (∀ F k, relCs F k td.zero z.cells.toList) ∧ (td.dat = true → ∀ w ok, Rd w ok td.ty td.ty.dflt z.cells.toList)
  agg : td.agg = true → ∃ fs : Array Field, P.underlying t = some (.struct fs) ∧ fs.toList.map (fun f => (f.type, f.offset)) = td.flds
  noagg : td.agg = false → td.sz = 1 ∧ td.flds = [] ∧ ∃ d, P.underlying t = some d ∧ (∀ fs, d ≠ .struct fs) ∧ (∀ n e, d ≠ .array n e)
  sl : ∀ r, td.ty = .slice r → P.underlying t = some (.slice td.elem)
  int : ∀ k, td.ty = .int k → P.underlying t = some (.int k)
  str : td.ty = .str → P.underlying t = some .string
  bool : td.ty = .bool → P.underlying t = some .bool
  fld : ∀ f ∈ td.flds, ∃ ti, P.info? f.1 = some ti ∧ 0 < ti.size
  pos : 0 < td.sz
  own : td.ns ≠ [] → ∃ ti z, P.info? t = some ti ∧ ti.zero = some z ∧ ∀ w ok base, OwnRd w ok base td.ty td.ty.dflt td.ns z.cells.toList [] []
  eqs : td.eqs ≠ [] → ∃ fs : Array Field, P.underlying t = some (.struct fs) ∧ P.stoodInHeld t = false ∧ P.eqGuardType P.depth t = false ∧ fs.size = td.eqs.length ∧
    ∀ (j : Nat) (f : Field), fs.toList[j]? = some f → f.name ≠ "_" ∧ f.offset = j ∧ ((td.eqs[j]? = some .bool ∧ P.underlying f.type = some .bool) ∨ (td.eqs[j]? = some .str ∧ P.underlying f.type = some .string) ∨ ∃ k, td.eqs[j]? = some (.int k) ∧ P.underlying f.type = some (.int k))
def TTok (P : Program) (TT : Nat → Option TD) : Prop := ∀ t td, TT t = some td → TDok P t td
def Does (P : Program) (F : Fx) (k : K) (s : Sem Value) (U : Upd) : Prop :=
  ∃ v k', s.run P k.w = .ok v k'.w ∧ k'.h = (k.put U.obs).h ∧ HeapOK F k' ∧ Le F k k' ∧ relA F k' U.val v
theorem put_nil (k : K) : (k.put []).h = k.h := by funext i; simp [K.put, lkH]
theorem Does.pure {P : Program} {F : Fx} {k : K} (hk : HeapOK F k) {s : Sem Value} {v : Value} {a : AV} (h : s.run P k.w = .ok v k.w) (ha : relA F k a v) : Does P F k s ⟨a, []⟩ :=
  ⟨v, k, h, (put_nil k).symm, hk, Le.refl F k, ha⟩
theorem offT_zero (t : Ty) (n : Nat) : offT t n 0 = 0 := by cases t <;> rfl
theorem fldT_t {t : Ty} {x : t.den} {n : Nat} (h : Nat.ble n 1 = true) : fldT t x n 0 = some ⟨t, x⟩ := by cases t <;> simp [fldT, h]
theorem fldTy_t {t : Ty} {n : Nat} (h : Nat.ble n 1 = true) : fldTy t n 0 = some t := by cases t <;> simp [fldTy, h]
theorem setF_t {t : Ty} {x : t.den} {n : Nat} (h : Nat.ble n 1 = true) (d : Dv) : setF t x n 0 d = castT t d.1 d.2 := by cases t <;> simp [setF, h]
theorem castT_self (t : Ty) (x : t.den) : castT t t x = some x := by simp [castT]
theorem fld_rd {w : World} {ok : Nat → Prop} : ∀ (j : Nat) {t : Ty} {x : t.den} {vs : List Value} {n : Nat} {d : Dv}, fldT t x n j = some d → Rd w ok t x vs →
    fldTy t n j = some d.1 ∧ ∃ u c v, vs = u ++ (c ++ v) ∧ u.length = offT t n j ∧ Rd w ok d.1 d.2 c ∧ (∀ (ok' : Nat → Prop) (y : d.1.den) c', (∀ b, ok b → ok' b) → Rd w ok' d.1 y c' → ∃ x', setF t x n j ⟨d.1, y⟩ = some x' ∧ Rd w ok' t x' (u ++ (c' ++ v)))
  | 0, t, x, vs, n, d, h, hr => by
    rw [offT_zero]
    cases hn : Nat.ble n 1
    · cases t with
      | pair a b =>
        simp only [fldT, hn, cond_false] at h
        have h := Option.some.inj h
        subst h
        simp only [Rd] at hr
        obtain ⟨v1, v2, rfl, h1, h2⟩ := hr
        refine ⟨by simp [fldTy, hn], [], v1, v2, rfl, rfl, h1, fun ok' y c' ho hy => ⟨(y, x.2), ?_, ?_⟩⟩
        · simp [setF, hn, castT_self]
        · exact ⟨c', v2, rfl, hy, h2.mono ho (fun _ _ _ => rfl)⟩
      | _ => simp [fldT, hn] at h
    · rw [fldT_t hn] at h
      have h := Option.some.inj h
      subst h
      exact ⟨fldTy_t hn, [], vs, [], by simp, rfl, hr, fun ok' y c' ho hy => ⟨y, (setF_t hn _).trans (castT_self _ _), by simpa using hy⟩⟩
  | j + 1, t, x, vs, n, d, h, hr => by
    cases t with
    | pair a b =>
      simp only [fldT] at h
      simp only [Rd] at hr
      obtain ⟨v1, v2, rfl, h1, h2⟩ := hr
      obtain ⟨hty, u, c, v, rfl, hu, hc, hs⟩ := fld_rd j h h2
      refine ⟨by simpa only [fldTy] using hty, v1 ++ u, c, v, by simp, by simp [offT, h1.length, hu], hc, fun ok' y c' ho hy => ?_⟩
      obtain ⟨x', hx, hr'⟩ := hs ok' y c' ho hy
      exact ⟨(x.1, x'), by simp only [setF, hx], v1, u ++ (c' ++ v), by simp, h1.mono ho (fun _ _ _ => rfl), hr'⟩
    | _ => simp [fldT] at h
theorem path_rd {w : World} {ok : Nat → Prop} : ∀ (p : List (Nat × Nat)) {t : Ty} {x : t.den} {vs : List Value} {d : Dv}, projT t x p = some d → Rd w ok t x vs →
    ∃ o, pathTy t p = some (d.1, o) ∧ ∃ u c v, vs = u ++ (c ++ v) ∧ u.length = o ∧ Rd w ok d.1 d.2 c ∧ (∀ (ok' : Nat → Prop) (y : d.1.den) c', (∀ b, ok b → ok' b) → Rd w ok' d.1 y c' → ∃ x', setP t x p ⟨d.1, y⟩ = some x' ∧ Rd w ok' t x' (u ++ (c' ++ v)))
  | [], t, x, vs, d, h, hr => by
    have h : (⟨t, x⟩ : Dv) = d := Option.some.inj h
    subst h
    exact ⟨0, rfl, [], vs, [], by simp, rfl, hr, fun ok' y c' ho hy => ⟨y, by simp [setP, castT], by simpa using hy⟩⟩
  | (n, j) :: p, t, x, vs, d, h, hr => by
    simp only [projT] at h
    cases hf : fldT t x n j with
    | none => rw [hf] at h; cases h
    | some e =>
      rw [hf] at h
      obtain ⟨hty, u, c, v, rfl, hu, hc, hs⟩ := fld_rd j hf hr
      obtain ⟨o, hp, u2, c2, v2, rfl, hu2, hc2, hs2⟩ := path_rd p h hc
      refine ⟨offT t n j + o, by simp only [pathTy, hty, hp], u ++ u2, c2, v2 ++ v, by simp, by simp [hu, hu2], hc2, fun ok' y c' ho hy => ?_⟩
      obtain ⟨x2, hx2, hr2⟩ := hs2 ok' y c' ho hy
      obtain ⟨x3, hx3, hr3⟩ := hs ok' x2 _ ho hr2
      exact ⟨x3, by simp only [setP, hf, hx2, hx3], by simpa using hr3⟩
theorem pathTy_append : ∀ (p : List (Nat × Nat)) {t u v : Ty} {o n j : Nat}, pathTy t p = some (u, o) → fldTy u n j = some v → pathTy t (p ++ [(n, j)]) = some (v, o + offT u n j)
  | [], t, u, v, o, n, j, h, hv => by
    simp only [pathTy, Option.some.injEq, Prod.mk.injEq] at h
    obtain ⟨rfl, rfl⟩ := h
    simp [pathTy, hv]
  | (m, i) :: p, t, u, v, o, n, j, h, hv => by
    simp only [pathTy] at h
    cases hf : fldTy t m i with
    | none => rw [hf] at h; cases h
    | some t' =>
      rw [hf] at h
      dsimp only at h
      cases hp : pathTy t' p with
      | none => rw [hp] at h; cases h
      | some q =>
        obtain ⟨u', o'⟩ := q
        rw [hp] at h
        dsimp only at h
        simp only [Option.some.injEq, Prod.mk.injEq] at h
        obtain ⟨rfl, rfl⟩ := h
        simp only [List.cons_append, pathTy, hf, pathTy_append p hp hv, Nat.add_assoc]
section mem
variable {P : Program} {TT : Nat → Option TD}
theorem run_isAgg_true {t : Nat} {td : TD} (h : TDok P t td) (ha : td.agg = true) (w : World) : (isAgg t).run P w = .ok true w := by
  obtain ⟨fs, hf, _⟩ := h.agg ha
  simp [isAgg, run_underlying hf]
theorem run_isAgg_false {t : Nat} {td : TD} (h : TDok P t td) (ha : td.agg = false) (w : World) : (isAgg t).run P w = .ok false w := by
  obtain ⟨_, _, d, hd, h1, h2⟩ := h.noagg ha
  simp only [isAgg, Sem.run_bind, run_underlying hd, Result.andThen_ok]
  cases d <;> first | rfl | exact absurd rfl (h1 _) | exact absurd rfl (h2 _ _)
theorem run_sizeOf' {t : Nat} {td : TD} (h : TDok P t td) (w : World) : (sizeOf t).run P w = .ok td.sz w := by
  obtain ⟨ti, z, h1, h2, _⟩ := h.info
  simp [sizeOf, typeInfo, h1, h2]
theorem run_load_cell {w : World} {ad : Addr} {v : Value} (h : w.cell? ad = some v) : (load ad).run P w = .ok v w := by simp [h]
theorem run_loadVar_agg {t : Nat} {td : TD} (h : TDok P t td) (ha : td.agg = true) {w : World} {ad : Addr} {vs : List Value} (hc : CellsAt w ad vs) (hl : vs.length = td.sz) : (loadVar t ad).run P w = .ok (.agg vs.toArray) w := by
  have := run_loadCells_list (P := P) w ad vs hc
  simp only [loadVar, Sem.run_bind, run_isAgg_true h ha, Result.andThen_ok, if_true, run_sizeOf' h, ← hl, this, Sem.run_pure]
theorem run_loadVar_one {t : Nat} {td : TD} (h : TDok P t td) (ha : td.agg = false) {w : World} {ad : Addr} {v : Value} (hc : CellsAt w ad [v]) : (loadVar t ad).run P w = .ok v w := by
  have h0 : w.cell? ad = some v := by simpa [Addr.add] using hc 0 v rfl
  simp only [loadVar, Sem.run_bind, run_isAgg_false h ha, Result.andThen_ok, Bool.false_eq_true, if_false]
  exact run_load_cell h0
theorem asV_rel {F : Fx} {k : K} {t : Nat} {td : TD} (h : TDok P t td) {ty : Ty} {x : ty.den} {vs : List Value} {ad : Addr} (hr : Rd k.w (k.ok F) ty x vs) (hc : CellsAt k.w ad vs) (hs : ty.sz = td.sz) :
    ∃ v, (loadVar t ad).run P k.w = .ok v k.w ∧ relV F k (asV td.agg ty x) v := by
  cases ha : td.agg
  · have h1 := (h.noagg ha).1
    have hl := hr.length
    rw [hs, h1] at hl
    match vs, hl with
    | [v], _ => exact ⟨v, run_loadVar_one h ha hc, hr⟩
  · exact ⟨_, run_loadVar_agg h ha hc (hr.length.trans hs), vs, rfl, unpack_rel hr⟩
theorem row_of {w : World} {okx : Nat → Prop} {base e : Nat} {r : Ty} {xs : List r.den} {vs : List Value} {v0 : Value} (ho : OwnsR w base e r.sz v0 xs.length vs) (hr : RdRows w okx r xs vs) {g n c : Nat} (hν : v0 = .slice (some ⟨g, 0, none⟩) n c) {j : Nat} (hj : j < xs.length) :
    ∃ cur u row v rest, w.heap[g]? = some (.cells cur.toArray e (0, 0)) ∧ cur = u ++ (row ++ v) ++ rest ∧ u.length = j * r.sz ∧ Rd w okx r (xs.getD j r.dflt) row ∧
      n = xs.length ∧ n ≤ c ∧ c ≤ maxLen ∧ cur.length = c * r.sz ∧ (u ++ (row ++ v)).length = n * r.sz ∧ base ≤ g ∧ vs = u ++ (row ++ v) ∧
      (∀ (ok' : Nat → Prop) x' c', (∀ b, okx b → ok' b) → Rd w ok' r x' c' → RdRows w ok' r (xs.set j x') (u ++ (c' ++ v))) := by
  obtain ⟨u, row, v, rfl, hu, hrow, hset⟩ := hr.split j hj
  rcases ho.2 with ⟨a, hv, hn⟩ | ⟨g', cap, cur, hv, hcp, hB, hg, hnc, hcm, hcs, htk⟩
  · omega
  · rw [hν] at hv
    injection hv with h1 h2 h3
    injection h1 with h1
    injection h1 with h1
    subst h1 h2 h3
    refine ⟨cur.toList, u, row, v, cur.toList.drop (xs.length * r.sz), by simpa using hg, ?_, hu, hrow, rfl, hnc, hcm, by simpa using hcs, ho.1, hB, rfl, hset⟩
    rw [← htk, List.take_append_drop]
theorem arr_row {F : Fx} {k : K} (hk : HeapOK F k) {id e : Nat} {r : Ty} {xs : List r.den} (h : k.h id = some (.arr e r xs)) {g n c : Nat} (hν : k.ν id = .slice (some ⟨g, 0, none⟩) n c) {j : Nat} (hj : j < xs.length) :
    ∃ cur u row v rest, k.w.heap[g]? = some (.cells cur.toArray e (0, 0)) ∧ cur = u ++ (row ++ v) ++ rest ∧ u.length = j * r.sz ∧ Rd k.w (k.ok F) r (xs.getD j r.dflt) row ∧ k.own id g ∧
      n = xs.length ∧ n ≤ c ∧ c ≤ maxLen ∧ cur.length = c * r.sz ∧ (u ++ (row ++ v)).length = n * r.sz ∧ F.bs id ≤ g ∧ xs.length ≤ lim ∧
      (∀ (ok' : Nat → Prop) x' c', (∀ b, k.ok F b → ok' b) → Rd k.w ok' r x' c' → RdRows k.w ok' r (xs.set j x') (u ++ (c' ++ v))) := by
  obtain ⟨vs, ho, hr, hl⟩ := hk.obj id _ h
  obtain ⟨cur, u, row, v, rest, h1, h2, h3, h4, h5, h6, h7, h8, h9, h10, _, h11⟩ := row_of ho hr hν hj
  exact ⟨cur, u, row, v, rest, h1, h2, h3, h4, (own_no h).2 (by rw [hν]; exact ownB_pos (by have := h5; omega)), h5, h6, h7, h8, h9, h10, hl, h11⟩
theorem cells_in {w : World} {g : Nat} {T : TypeId} {fr : Nat × Nat} {u c v : List Value} (hg : w.heap[g]? = some (.cells (u ++ (c ++ v)).toArray T fr)) : CellsAt w ⟨g, u.length, none⟩ c := by
  intro i x hx
  rw [add_lit2]
  have hlt := (List.getElem?_eq_some_iff.1 hx).1
  simp only [World.cell?, hg, Option.isSome_none, Bool.false_eq_true, if_false]
  simp only [List.getElem?_toArray]
  rw [List.getElem?_append_right (by omega), Nat.add_sub_cancel_left, List.getElem?_append_left hlt]
  exact hx
end mem
end Go.MC

set_option linter.unusedVariables false
set_option linter.unusedSimpArgs false
namespace Go.MC
open Go.RowKit
theorem OwnRd.length {w : World} {ok : Nat → Prop} {base : Nat} : ∀ {t : Ty} {x : t.den} {es : List Nat} {vs : List Value} {es' os : List Nat}, OwnRd w ok base t x es vs es' os → vs.length = t.sz
  | .bool, _, _, _, _, _, h => h.2.2.length
  | .int _, _, _, _, _, _, h => h.2.2.length
  | .str, _, _, _, _, _, h => h.2.2.length
  | .slice _, _, _, _, _, _, h => by obtain ⟨e, v, us, _, rfl, _⟩ := h; rfl
  | .pair _ _, _, _, _, _, _, h => by
    obtain ⟨v1, v2, es1, o1, o2, rfl, h1, h2, rfl⟩ := h
    simp [Ty.sz, h1.length, h2.length]
theorem sliT_zero (t : Ty) (n : Nat) : sliT t n 0 = 0 := by cases t <;> rfl
theorem OwnRd.rest {w : World} {ok : Nat → Prop} {base : Nat} : ∀ {t : Ty} {x : t.den} {es : List Nat} {vs : List Value} {es' os : List Nat}, OwnRd w ok base t x es vs es' os → es' = es.drop (nsl t)
  | .bool, _, _, _, _, _, h => h.1
  | .int _, _, _, _, _, _, h => h.1
  | .str, _, _, _, _, _, h => h.1
  | .slice _, _, _, _, _, _, h => by obtain ⟨e, v, us, rfl, _⟩ := h; rfl
  | .pair _ _, _, _, _, _, _, h => by
    obtain ⟨v1, v2, es1, o1, o2, rfl, h1, h2, rfl⟩ := h
    rw [h2.rest, h1.rest, List.drop_drop]
    rfl
theorem own_fld {w : World} {ok : Nat → Prop} {base : Nat} : ∀ (j : Nat) {t : Ty} {x : t.den} {es es' os : List Nat} {vs : List Value} {n : Nat} {d : Dv}, fldT t x n j = some d → OwnRd w ok base t x es vs es' os →
    ∃ u c v es1 es2 o1 oc o2, vs = u ++ (c ++ v) ∧ u.length = offT t n j ∧ OwnRd w ok base d.1 d.2 es1 c es2 oc ∧ os = o1 ++ (oc ++ o2) ∧ es1 = es.drop (sliT t n j) ∧
      (∀ (y : d.1.den) c' oc', OwnRd w ok base d.1 y es1 c' es2 oc' → ∃ x', setF t x n j ⟨d.1, y⟩ = some x' ∧ OwnRd w ok base t x' es (u ++ (c' ++ v)) es' (o1 ++ (oc' ++ o2)))
  | 0, t, x, es, es', os, vs, n, d, h, hr => by
    rw [offT_zero]
    cases hn : Nat.ble n 1
    · cases t with
      | pair a b =>
        simp only [fldT, hn, cond_false] at h
        have h := Option.some.inj h
        subst h
        obtain ⟨v1, v2, es1, o1, o2, rfl, h1, h2, rfl⟩ := hr
        refine ⟨[], v1, v2, es, es1, [], o1, o2, rfl, rfl, h1, rfl, by rw [sliT_zero]; rfl, fun y c' oc' hy => ⟨(y, x.2), ?_, c', v2, es1, oc', o2, rfl, hy, h2, rfl⟩⟩
        simp [setF, hn, castT_self]
      | _ => simp [fldT, hn] at h
    · rw [fldT_t hn] at h
      have h := Option.some.inj h
      subst h
      exact ⟨[], vs, [], es, es', [], os, [], by simp, rfl, hr, by simp, by rw [sliT_zero]; rfl, fun y c' oc' hy => ⟨y, (setF_t hn _).trans (castT_self _ _), by simpa using hy⟩⟩
  | j + 1, t, x, es, es', os, vs, n, d, h, hr => by
    cases t with
    | pair a b =>
      simp only [fldT] at h
      obtain ⟨v1, v2, es1, o1, o2, rfl, h1, h2, rfl⟩ := hr
      obtain ⟨u, c, v, es3, es4, o3, oc, o4, rfl, hu, hc, rfl, he3, hs⟩ := own_fld j h h2
      refine ⟨v1 ++ u, c, v, es3, es4, o1 ++ o3, oc, o4, by simp, by simp [offT, h1.length, hu], hc, by simp, by rw [he3, h1.rest, List.drop_drop]; rfl, fun y c' oc' hy => ?_⟩
      obtain ⟨x', hx, hr'⟩ := hs y c' oc' hy
      exact ⟨(x.1, x'), by simp only [setF, hx], v1, u ++ (c' ++ v), es1, o1, o3 ++ (oc' ++ o4), by simp, h1, hr', by simp⟩
    | _ => simp [fldT] at h
theorem fld_rd_ty : ∀ (j : Nat) {t : Ty} {x : t.den} {n : Nat} {d : Dv}, fldT t x n j = some d → fldTy t n j = some d.1
  | 0, t, x, n, d, h => by
    cases hn : Nat.ble n 1
    · cases t with
      | pair a b =>
        simp only [fldT, hn, cond_false] at h
        have h := Option.some.inj h
        subst h
        simp [fldTy, hn]
      | _ => simp [fldT, hn] at h
    · rw [fldT_t hn] at h
      have h := Option.some.inj h
      subst h
      exact fldTy_t hn
  | j + 1, t, x, n, d, h => by
    cases t with
    | pair a b =>
      simp only [fldT] at h
      simpa only [fldTy] using fld_rd_ty j h
    | _ => simp [fldT] at h
theorem own_path {w : World} {ok : Nat → Prop} {base : Nat} : ∀ (p : List (Nat × Nat)) {t : Ty} {x : t.den} {es es' os : List Nat} {vs : List Value} {d : Dv}, projT t x p = some d → OwnRd w ok base t x es vs es' os →
    ∃ o, pathTy t p = some (d.1, o) ∧ ∃ u c v es1 es2 o1 oc o2, vs = u ++ (c ++ v) ∧ u.length = o ∧ OwnRd w ok base d.1 d.2 es1 c es2 oc ∧ os = o1 ++ (oc ++ o2) ∧ es1 = es.drop (sliP t p) ∧
      (∀ (y : d.1.den) c' oc', OwnRd w ok base d.1 y es1 c' es2 oc' → ∃ x', setP t x p ⟨d.1, y⟩ = some x' ∧ OwnRd w ok base t x' es (u ++ (c' ++ v)) es' (o1 ++ (oc' ++ o2)))
  | [], t, x, es, es', os, vs, d, h, hr => by
    simp only [projT, Option.some.injEq] at h
    subst h
    exact ⟨0, rfl, [], vs, [], es, es', [], os, [], by simp, rfl, hr, by simp, rfl, fun y c' oc' hy => ⟨y, castT_self _ _, by simpa using hy⟩⟩
  | (n, j) :: p, t, x, es, es', os, vs, d, h, hr => by
    simp only [projT] at h
    split at h
    · rename_i e he
      obtain ⟨u, c, v, es1, es2, o1, oc, o2, rfl, hu, hc, rfl, he1, hs⟩ := own_fld j he hr
      obtain ⟨o, hp, u2, c2, v2, es3, es4, o3, oc2, o4, rfl, hu2, hc2, rfl, he3, hs2⟩ := own_path p h hc
      refine ⟨offT t n j + o, ?_, u ++ u2, c2, v2 ++ v, es3, es4, o1 ++ o3, oc2, o4 ++ o2, by simp, by simp [hu, hu2], hc2, by simp, by rw [he3, he1, List.drop_drop]; simp only [sliP, fld_rd_ty j he], fun y c' oc' hy => ?_⟩
      · have hf : fldTy t n j = some e.1 := (fld_rd_ty j he)
        simp only [pathTy, hf, hp]
      · obtain ⟨y1, h1, h2⟩ := hs2 y c' oc' hy
        obtain ⟨x', h3, h4⟩ := hs y1 _ _ h2
        exact ⟨x', by simp only [setP, he, h1, h3], by simpa using h4⟩
    · cases h
theorem ownRd_flat {w : World} {ok : Nat → Prop} {base : Nat} : ∀ {t : Ty} {x : t.den} {es : List Nat} {vs : List Value} {es' os : List Nat}, t.flat = true → OwnRd w ok base t x es vs es' os → es' = es ∧ os = []
  | .bool, _, _, _, _, _, _, h => ⟨h.1, h.2.1⟩
  | .int _, _, _, _, _, _, _, h => ⟨h.1, h.2.1⟩
  | .str, _, _, _, _, _, _, h => ⟨h.1, h.2.1⟩
  | .slice _, _, _, _, _, _, hf, _ => by simp [Ty.flat] at hf
  | .pair _ _, _, _, _, _, _, hf, h => by
    simp only [Ty.flat, Bool.and_eq_true] at hf
    obtain ⟨v1, v2, es1, o1, o2, rfl, h1, h2, rfl⟩ := h
    obtain ⟨rfl, rfl⟩ := ownRd_flat hf.1 h1
    obtain ⟨rfl, rfl⟩ := ownRd_flat hf.2 h2
    exact ⟨rfl, rfl⟩
theorem ownRd_of_flat {w : World} {ok : Nat → Prop} {base : Nat} : ∀ {t : Ty} {x : t.den} (es : List Nat) {vs : List Value}, t.flat = true → Rd w ok t x vs → OwnRd w ok base t x es vs es []
  | .bool, _, _, _, _, h => ⟨rfl, rfl, h⟩
  | .int _, _, _, _, _, h => ⟨rfl, rfl, h⟩
  | .str, _, _, _, _, h => ⟨rfl, rfl, h⟩
  | .slice _, _, _, _, hf, _ => by simp [Ty.flat] at hf
  | .pair _ _, _, es, _, hf, h => by
    simp only [Ty.flat, Bool.and_eq_true] at hf
    obtain ⟨v1, v2, rfl, h1, h2⟩ := h
    exact ⟨v1, v2, es, [], [], rfl, ownRd_of_flat es hf.1 h1, ownRd_of_flat es hf.2 h2, rfl⟩
theorem OwnRows.split {w : World} {ok : Nat → Prop} {base : Nat} {r : Ty} {ns : List Nat} : ∀ {xs : List r.den} {vs : List Value} {os : List Nat} (j : Nat), OwnRows w ok base r ns xs vs os → j < xs.length →
    ∃ u c v o1 oc o2, vs = u ++ (c ++ v) ∧ u.length = j * r.sz ∧ OwnRd w ok base r (xs.getD j r.dflt) ns c [] oc ∧ os = o1 ++ (oc ++ o2) ∧
      (∀ x' c' oc', OwnRd w ok base r x' ns c' [] oc' → OwnRows w ok base r ns (xs.set j x') (u ++ (c' ++ v)) (o1 ++ (oc' ++ o2)))
  | [], _, _, _, _, h => by simp at h
  | x :: xs, _, _, 0, h, _ => by
    obtain ⟨v1, v2, o1, o2, rfl, h1, h2, rfl⟩ := h
    exact ⟨[], v1, v2, [], o1, o2, rfl, by simp, h1, rfl, fun x' c' oc' h' => ⟨c', v2, oc', o2, rfl, h', h2, rfl⟩⟩
  | x :: xs, _, _, j + 1, h, hj => by
    obtain ⟨v1, v2, o1, o2, rfl, h1, h2, rfl⟩ := h
    obtain ⟨u, c, v, o3, oc, o4, rfl, hu, hc, rfl, hs⟩ := OwnRows.split j h2 (by simpa using hj)
    exact ⟨v1 ++ u, c, v, o1 ++ o3, oc, o4, by simp, by simp [hu, h1.length, Nat.add_mul, Nat.add_comm], hc, by simp, fun x' c' oc' h' => ⟨v1, _, o1, o3 ++ (oc' ++ o4), by simp, h1, hs x' c' oc' h', by simp⟩⟩
end Go.MC

set_option linter.unusedVariables false
set_option linter.unusedSimpArgs false
namespace Go.MC
open Go.RowKit
theorem set_mid {α : Type} (u : List α) (x y : α) (v : List α) {m : Nat} (hm : m = u.length) : (u ++ (x :: v)).set m y = u ++ (y :: v) := by subst hm; simp
theorem OwnRows.at {w : World} {ok : Nat → Prop} {base : Nat} {r : Ty} {ns : List Nat} {xs : List r.den} {vs : List Value} {os : List Nat} (hrows : OwnRows w ok base r ns xs vs os) {j : Nat} (hj : j < xs.length) {p : List (Nat × Nat)} {d : Dv} (hpr : projT r (xs.getD j r.dflt) p = some d) :
    ∃ o, pathTy r p = some (d.1, o) ∧ ∃ u c v es2 o1 oc o2, vs = u ++ (c ++ v) ∧ u.length = j * r.sz + o ∧ OwnRd w ok base d.1 d.2 (ns.drop (sliP r p)) c es2 oc ∧ os = o1 ++ (oc ++ o2) ∧
      ∀ (y : d.1.den) c' oc', OwnRd w ok base d.1 y (ns.drop (sliP r p)) c' es2 oc' → ∃ x', setP r (xs.getD j r.dflt) p ⟨d.1, y⟩ = some x' ∧ OwnRows w ok base r ns (xs.set j x') (u ++ (c' ++ v)) (o1 ++ (oc' ++ o2)) := by
  obtain ⟨u, row, v, o1, oc, o2, rfl, hu, hrow, rfl, hreb⟩ := OwnRows.split j hrows hj
  obtain ⟨o, hpt, u2, c2, v2, es1, es2, o3, oc2, o4, rfl, hu2, hc2, rfl, rfl, hs2⟩ := own_path p hpr hrow
  refine ⟨o, hpt, u ++ u2, c2, v2 ++ v, es2, o1 ++ o3, oc2, o4 ++ o2, by simp, by simp [hu, hu2], hc2, by simp, fun y c' oc' hy => ?_⟩
  obtain ⟨x', h1, h2⟩ := hs2 y c' oc' hy
  exact ⟨x', h1, by simpa using hreb x' _ _ h2⟩
theorem RdRows.at' {w : World} {ok : Nat → Prop} {r : Ty} {xs : List r.den} {vs : List Value} (hrows : RdRows w ok r xs vs) {j : Nat} (hj : j < xs.length) {p : List (Nat × Nat)} {d : Dv} (hpr : projT r (xs.getD j r.dflt) p = some d) :
    ∃ o, pathTy r p = some (d.1, o) ∧ ∃ u c v, vs = u ++ (c ++ v) ∧ u.length = j * r.sz + o ∧ Rd w ok d.1 d.2 c ∧
      ∀ (y : d.1.den) c', Rd w ok d.1 y c' → ∃ x', setP r (xs.getD j r.dflt) p ⟨d.1, y⟩ = some x' ∧ RdRows w ok r (xs.set j x') (u ++ (c' ++ v)) := by
  obtain ⟨u, row, v, rfl, hu, hrow, hreb⟩ := RdRows.split j hrows hj
  obtain ⟨o, hpt, u2, c2, v2, rfl, hu2, hc2, hs2⟩ := path_rd p hpr hrow
  refine ⟨o, hpt, u ++ u2, c2, v2 ++ v, by simp, by simp [hu, hu2], hc2, fun y c' hy => ?_⟩
  obtain ⟨x', h1, h2⟩ := hs2 ok y c' (fun _ h => h) hy
  exact ⟨x', h1, by simpa using hreb ok x' _ (fun _ h => h) h2⟩
theorem fld_of_ty : ∀ (j : Nat) {t t' : Ty} {n : Nat}, fldTy t n j = some t' → ∀ x : t.den, ∃ y : t'.den, fldT t x n j = some ⟨t', y⟩
  | 0, t, t', n, h, x => by
    cases hn : Nat.ble n 1
    · cases t with
      | pair a b =>
        simp only [fldTy, hn, cond_false, Option.some.injEq] at h
        subst h
        exact ⟨x.1, by simp [fldT, hn]⟩
      | _ => simp [fldTy, hn] at h
    · rw [fldTy_t hn, Option.some.injEq] at h
      subst h
      exact ⟨x, fldT_t hn⟩
  | j + 1, t, t', n, h, x => by
    cases t with
    | pair a b =>
      simp only [fldTy] at h
      simpa only [fldT] using fld_of_ty j h x.2
    | _ => simp [fldTy] at h
theorem proj_of_path : ∀ (p : List (Nat × Nat)) {t t' : Ty} {o : Nat}, pathTy t p = some (t', o) → ∀ x : t.den, ∃ y : t'.den, projT t x p = some ⟨t', y⟩
  | [], t, t', o, h, x => by
    simp only [pathTy, Option.some.injEq, Prod.mk.injEq] at h
    obtain ⟨rfl, _⟩ := h
    exact ⟨x, rfl⟩
  | (n, j) :: p, t, t', o, h, x => by
    simp only [pathTy] at h
    cases hf : fldTy t n j with
    | none => rw [hf] at h; cases h
    | some t1 =>
      rw [hf] at h
      dsimp only at h
      cases hp : pathTy t1 p with
      | none => rw [hp] at h; cases h
      | some q =>
        obtain ⟨u, o1⟩ := q
        rw [hp] at h
        dsimp only at h
        simp only [Option.some.injEq, Prod.mk.injEq] at h
        obtain ⟨rfl, _⟩ := h
        obtain ⟨y, hy⟩ := fld_of_ty j hf x
        obtain ⟨z, hz⟩ := proj_of_path p hp y
        exact ⟨z, by simp only [projT, hy, hz]⟩
theorem setP_ty : ∀ (p : List (Nat × Nat)) {t t' : Ty} {o : Nat} {x y : t.den} {d : Dv}, setP t x p d = some y → pathTy t p = some (t', o) → d.1 = t'
  | [], t, t', o, x, y, d, h, hp => by
    simp only [pathTy, Option.some.injEq, Prod.mk.injEq] at hp
    obtain ⟨rfl, _⟩ := hp
    exact (castT_eq h).1
  | (n, j) :: p, t, t', o, x, y, d, h, hp => by
    simp only [setP] at h
    split at h
    · rename_i e he
      split at h
      · rename_i z hz
        simp only [pathTy, fld_rd_ty j he] at hp
        cases hq : pathTy e.1 p with
        | none => rw [hq] at hp; cases hp
        | some q =>
          obtain ⟨u, o1⟩ := q
          rw [hq] at hp
          dsimp only at hp
          simp only [Option.some.injEq, Prod.mk.injEq] at hp
          obtain ⟨rfl, _⟩ := hp
          exact setP_ty p hz hq
      · cases h
    · cases h
theorem lkH_two (a b : Nat) (oa ob : Ob) (i : Nat) : lkH [(a, oa), (b, ob)] i = if i = a then some oa else if i = b then some ob else none := by
  rw [show [(a, oa), (b, ob)] = [(a, oa)] ++ [(b, ob)] from rfl, lkH_append, lkH_one, lkH_one]
  split <;> simp
theorem demote_step {F : Fx} {k : K} (hk : HeapOK F k) {id e : Nat} {r : Ty} {xs zs : List r.den} {ns : List Nat} {hs : Option (Int × List (Nat × Nat) × Nat)} (hid : k.h id = some (.arr e r xs (.yes ns hs))) (hp : isPar id = false) (hlen : zs.length = xs.length)
    {vs' : List Value} (hown : OwnsR k.w (F.bs id) e r.sz (k.ν id) xs.length vs') (hnd : ((ownB (k.ν id)).toList ++ k.nb id).Nodup)
    (hrd : ∀ ok' : Nat → Prop, (∀ b, k.ok F b → ok' b) → (∀ b ∈ k.nb id, ok' b) → RdRows k.w ok' r zs vs') :
    HeapOK F (k.put [(id, .arr e r zs)]) ∧ Le F k (k.put [(id, .arr e r zs)]) := by
  have hh : ∀ x, (k.put [(id, Ob.arr e r zs)]).h x = if x = id then some (.arr e r zs) else k.h x := by
    intro x
    show (lkH [(id, Ob.arr e r zs)] x).or (k.h x) = _
    rw [lkH_one]
    split <;> simp
  have hidown : ∀ b, (k.put [(id, Ob.arr e r zs)]).own id b → ownB (k.ν id) = some b := by
    intro b hb
    unfold K.own at hb
    rw [hh, if_pos rfl] at hb
    exact hb
  have hl : xs.length ≤ lim := by
    obtain ⟨_, _, _, _, h, _⟩ := hk.obj id _ hid
    exact h
  refine reown hk (fun x => x = id) (Nat.le_refl _) (fun _ _ _ => rfl) rfl rfl rfl (fun x hx => ⟨by rw [hh, if_neg hx], rfl, rfl, rfl⟩) (fun x hx => ?_) (fun x b hx hb => ?_) (fun x y b hx hy _ _ => hx.trans hy.symm) (fun hle x o hx ho => ?_)
  · subst hx
    exact .inr ⟨e, r, xs, _, hid, rfl, .inl ⟨zs, .no, by rw [hh, if_pos rfl], hlen⟩⟩
  · subst hx
    exact .inl ⟨x, rfl, own_block hid (hidown b hb)⟩
  · subst hx
    rw [hh, if_pos rfl] at ho
    cases ho
    refine ⟨vs', by rw [hlen]; exact hown, hrd _ hle.ok fun b hb => ?_, by rw [hlen]; exact hl⟩
    have hbo : k.own x b := (own_yes hid).2 (.inr hb)
    have hB := (hk.rng x b hbo).1
    refine .inr ⟨hB, (hk.rng x b hbo).2, fun y hy => ?_⟩
    by_cases hyx : y = x
    · subst hyx
      have h1 := hidown b hy
      rw [h1] at hnd
      simp only [Option.toList_some, List.singleton_append, List.nodup_cons] at hnd
      exact hnd.1 hb
    · have h2 : k.own y b := by
        unfold K.own at hy ⊢
        rw [hh, if_neg hyx] at hy
        exact hy
      exact hyx (hk.inj y x b h2 hbo)
theorem closeP_sound {F : Fx} {k : K} (hk : HeapOK F k) {id e : Nat} {r : Ty} {xs : List r.den} {ns : List Nat} {h : Int × List (Nat × Nat) × Nat} (hid : k.h id = some (.arr e r xs (.yes ns (some h)))) {q : Ob × List (Nat × Ob)} (hq : closeP id e r xs ns h.1 h.2.1 h.2.2 (k.h h.2.2) = some q) :
    ∃ k', k'.w = k.w ∧ k'.h = (k.put q.2).h ∧ HeapOK F k' ∧ Le F k k' ∧ k'.h id = some q.1 ∧ ((∃ xs, q.1 = .arr e r xs) ∨ ∃ xs, q.1 = .arr e r xs (.yes ns)) ∧ ∀ x, k.h x = none → k'.h x = none := by
  obtain ⟨j, p, i⟩ := h
  obtain ⟨vs, vs', hown, hrows, hl, hnd, hfill⟩ := hk.obj id _ hid
  obtain ⟨r2', o, hj0, hj1, hpt, hnil, hne, rfl⟩ := hfill
  dsimp only at hj0 hj1 hpt hnil hne hq hown
  obtain ⟨y0, hpr⟩ := proj_of_path p hpt (xs.getD j.toNat r.dflt)
  have hjl : j.toNat < xs.length := by omega
  obtain ⟨o', hpt', u, c, v, es2, o1, oc, o2, rfl, hu, hc, hos, hreb⟩ := hrows.at hjl hpr
  rw [hpt] at hpt'
  cases hpt'
  obtain ⟨e', v0, us, hes, rfl, h1, h2, h3, rfl⟩ := hc
  have hv0 : v0 = .slice none 0 0 := by
    rw [← hu] at hnil
    simpa using hnil
  subst hv0
  have hset : (u ++ ([Value.slice none 0 0] ++ v)).set (j.toNat * r.sz + o) (k.ν i) = u ++ ([k.ν i] ++ v) := set_mid u _ _ v hu.symm
  rw [hset] at hown
  have hos : k.nb id = o1 ++ o2 := by simpa [ownB] using hos
  unfold closeP at hq
  split at hq
  · rename_i e2 r2 ys hi
    cases hb : (optEq (eAt r p ns) e2 && (!isPar i || isPar id) && !Nat.beq i id) with
    | false => rw [hb] at hq; cases hq
    | true =>
      rw [hb] at hq
      simp only [cond_true] at hq
      split at hq
      · rename_i zs hzs
        simp only [Option.some.injEq] at hq
        subst hq
        simp only [Bool.and_eq_true] at hb
        obtain ⟨⟨hb1, hb2⟩, hb3⟩ := hb
        have hie : i ≠ id := by
          rintro rfl
          rw [Nat.beq_refl] at hb3
          cases hb3
        unfold setRP at hzs
        split at hzs
        case h_2 => cases hzs
        rename_i x' hx'
        simp only [Option.some.injEq] at hzs
        subst hzs
        have hty := setP_ty p hx' hpt
        dsimp only at hty
        injection hty with hty
        subst hty
        have he2 : e' = e2 := by
          unfold eAt at hb1
          rw [hes] at hb1
          exact Nat.eq_of_beq_eq_true hb1
        subst he2
        obtain ⟨ws, hown2, hrd2, hl2⟩ := hk.obj i _ hi
        have hbs : F.bs id ≤ F.bs i := Nat.le_refl _
        obtain ⟨x2, hx2, hrows2⟩ := hreb ys [k.ν i] (ownB (k.ν i)).toList ⟨e', k.ν i, ws, hes, rfl, ownsRow_base hown2 hbs, hrd2, hl2, rfl⟩
        rw [hx'] at hx2
        cases hx2
        let k' : K := ⟨k.w, (k.put [(id, .arr e r (xs.set j.toNat x') (.yes ns)), (i, .gone)]).h, k.μ, k.ν, fun x => if x = id then o1 ++ ((ownB (k.ν i)).toList ++ o2) else k.nb x⟩
        have hh : ∀ x, k'.h x = if x = id then some (.arr e r (xs.set j.toNat x') (.yes ns)) else if x = i then some .gone else k.h x := by
          intro x
          show (lkH _ x).or (k.h x) = _
          rw [lkH_two]
          split
          · rfl
          · split <;> simp
        have hnbid : k'.nb id = o1 ++ ((ownB (k.ν i)).toList ++ o2) := if_pos rfl
        have hownid : ∀ b, k'.own id b → k.own id b ∨ k.own i b := by
          intro b hb
          unfold K.own at hb
          rw [hh, if_pos rfl] at hb
          dsimp only at hb
          rw [hnbid] at hb
          rcases hb with hb | hb
          · exact .inl (own_block hid hb)
          · simp only [List.mem_append, Option.mem_toList] at hb
            rcases hb with hb | hb | hb
            · exact .inl ((own_yes hid).2 (.inr (by rw [hos]; exact List.mem_append.2 (.inl hb))))
            · exact .inr (own_block hi hb)
            · exact .inl ((own_yes hid).2 (.inr (by rw [hos]; exact List.mem_append.2 (.inr hb))))
        have howni : ∀ b, ¬ k'.own i b := by
          intro b hb
          unfold K.own at hb
          rw [hh, if_neg hie, if_pos rfl] at hb
          exact hb
        have main := reown hk (k' := k') (fun x => x = id ∨ x = i) (Nat.le_refl _) (fun _ _ _ => rfl) rfl rfl rfl (fun x hx => ?_) (fun x hx => ?_) (fun x b hx hb => ?_) (fun x y b hx hy h1 h2 => ?_) (fun hle x ob hx ho => ?_)
        · refine ⟨k', rfl, rfl, main.1, main.2, by rw [hh, if_pos rfl], .inr ⟨_, rfl⟩, fun x hx => ?_⟩
          rw [hh, if_neg (by rintro rfl; rw [hid] at hx; cases hx), if_neg (by rintro rfl; rw [hi] at hx; cases hx)]
          exact hx
        · have h1 : x ≠ id := fun h => hx (.inl h)
          have h2 : x ≠ i := fun h => hx (.inr h)
          exact ⟨by rw [hh, if_neg h1, if_neg h2], rfl, rfl, if_neg h1⟩
        · rcases hx with rfl | rfl
          · exact .inr ⟨e, r, xs, _, hid, rfl, .inl ⟨_, _, by rw [hh, if_pos rfl], by simp⟩⟩
          · exact .inr ⟨_, _, _, _, hi, rfl, .inr (.inr (by rw [hh, if_neg hie, if_pos rfl]))⟩
        · rcases hx with rfl | rfl
          · rcases hownid b hb with h1 | h1
            · exact .inl ⟨x, .inl rfl, h1⟩
            · exact .inl ⟨i, .inr rfl, h1⟩
          · exact absurd hb (howni b)
        · rcases hx with rfl | rfl
          · rcases hy with rfl | rfl
            · rfl
            · exact absurd h2 (howni b)
          · exact absurd h1 (howni b)
        · rcases hx with rfl | rfl
          · rw [hh, if_pos rfl] at ho
            cases ho
            refine ⟨_, _, by simpa using hown, ?_, by simpa using hl, ?_, rfl⟩
            · rw [hnbid]
              exact hrows2.move hle.ok hle.hp fun _ _ => rfl
            · rw [hnbid]
              have hdis : ∀ b, ownB (k.ν i) = some b → b ∉ (ownB (k.ν x)).toList ++ (o1 ++ o2) := by
                intro b hb hm
                have h1 : k.own i b := own_block hi hb
                have h2 : k.own x b := by
                  rcases List.mem_append.1 hm with hm | hm
                  · exact own_block hid (by simpa using hm)
                  · exact (own_yes hid).2 (.inr (by rw [hos]; exact hm))
                exact hie (hk.inj i x b h1 h2)
              rw [hos] at hnd
              show ((ownB (k.ν x)).toList ++ (o1 ++ ((ownB (k.ν i)).toList ++ o2))).Nodup
              cases hob : ownB (k.ν i) with
              | none => simpa using hnd
              | some b =>
                have hd := hdis b hob
                have hperm : ((ownB (k.ν x)).toList ++ (o1 ++ ((some b).toList ++ o2))).Perm (b :: ((ownB (k.ν x)).toList ++ (o1 ++ o2))) := by
                  have e1 : (ownB (k.ν x)).toList ++ (o1 ++ ((some b).toList ++ o2)) = ((ownB (k.ν x)).toList ++ o1) ++ b :: o2 := by simp
                  have e2 : (ownB (k.ν x)).toList ++ (o1 ++ o2) = ((ownB (k.ν x)).toList ++ o1) ++ o2 := by simp
                  rw [e1, e2]
                  exact List.perm_middle
                exact hperm.nodup_iff.2 (List.nodup_cons.2 ⟨hd, hnd⟩)
          · rw [hh, if_neg hie, if_pos rfl] at ho
            cases ho
            trivial
      · cases hq
  · rename_i r2 ys hi
    cases hpar : isPar id with
    | true => rw [hpar] at hq; cases hq
    | false =>
      rw [hpar] at hq
      simp only [cond_false] at hq
      split at hq
      · rename_i zs hzs
        simp only [Option.some.injEq] at hq
        subst hq
        unfold setRP at hzs
        split at hzs
        case h_2 => cases hzs
        rename_i x' hx'
        simp only [Option.some.injEq] at hzs
        subst hzs
        have hty := setP_ty p hx' hpt
        dsimp only at hty
        injection hty with hty
        subst hty
        have himm : Rd k.w (k.ok F) (.slice r2) ys [k.ν i] := hk.obj i _ hi
        have main := demote_step hk hid hpar (zs := xs.set j.toNat x') (by simp) hown hnd (fun ok' ho1 ho2 => ?_)
        · refine ⟨k.put [(id, .arr e r (xs.set j.toNat x'))], rfl, rfl, main.1, main.2, by simp [K.put, lkH_one], .inl ⟨_, rfl⟩, fun x hx => ?_⟩
          show (lkH [(id, _)] x).or (k.h x) = none
          rw [lkH_one, if_neg (by rintro rfl; rw [hid] at hx; cases hx), hx]
          rfl
        · have hr := hrows.rd (ok' := ok') ho1 ho2
          obtain ⟨o3, hpt3, u3, c3, v3, hvs, hu3, hc3, hreb3⟩ := hr.at' hjl hpr
          rw [hpt] at hpt3
          cases hpt3
          obtain ⟨x2, hx2, hr2⟩ := hreb3 ys [k.ν i] (himm.mono ho1 fun _ _ _ => rfl)
          rw [hx'] at hx2
          cases hx2
          have hsp := List.append_inj hvs (by omega)
          obtain ⟨rfl, hsp⟩ := hsp
          have hsp := List.append_inj hsp (by have := hc3.length; simpa [Ty.sz] using this.symm)
          obtain ⟨_, rfl⟩ := hsp
          exact hr2
      · cases hq
  · cases hq
theorem closeM_sound {F : Fx} {k : K} (hk : HeapOK F k) {S : St} (hS : k.h = lkH S.H) {id : Nat} {q : Option Ob × List (Nat × Ob)} {R : List Nat} (h : Tells (closeM id) S q R) :
    ∃ k', k'.w = k.w ∧ k'.h = (k.put q.2).h ∧ HeapOK F k' ∧ Le F k k' ∧ k'.h id = q.1 ∧ (∀ e r xs ns hh, q.1 ≠ some (.arr e r xs (.yes ns (some hh)))) ∧ ∀ x, k.h x = none → k'.h x = none := by
  unfold closeM at h
  obtain ⟨o, _, _, h1, h, _⟩ := tells_bind (Good.rdO _) (fun _ => Good.all _) h
  obtain ⟨rfl, _⟩ := tells_rdO h1
  rw [← hS] at h
  have same : ∀ {R : List Nat} {o : Option Ob}, k.h id = o → (∀ e r xs ns hh, o ≠ some (.arr e r xs (.yes ns (some hh)))) → Tells (M.pure (o, [])) S q R → ∃ k', k'.w = k.w ∧ k'.h = (k.put q.2).h ∧ HeapOK F k' ∧ Le F k k' ∧ k'.h id = q.1 ∧ (∀ e r xs ns hh, q.1 ≠ some (.arr e r xs (.yes ns (some hh)))) ∧ ∀ x, k.h x = none → k'.h x = none := by
    intro R o ho hne h
    obtain ⟨rfl, _⟩ := tells_pure h
    exact ⟨k, rfl, (put_nil k).symm, hk, Le.refl F k, ho, hne, fun _ h => h⟩
  split at h
  · rename_i e r xs ns hh hid
    obtain ⟨o, _, _, h1, h, _⟩ := tells_bind (Good.rdO _) (fun _ => Good.all _) h
    obtain ⟨rfl, _⟩ := tells_rdO h1
    rw [← hS] at h
    obtain ⟨z, _, _, h2, h, _⟩ := tells_bind (Good.ofOpt _) (fun _ => Good.all _) h
    obtain ⟨rfl, _⟩ := tells_pure h
    obtain ⟨k', g1, g2, g3, g4, g5, g6, g7⟩ := closeP_sound hk hid (tells_ofOpt h2).1
    refine ⟨k', g1, g2, g3, g4, g5, fun e r xs ns hh hc => ?_, g7⟩
    rcases g6 with ⟨_, g6⟩ | ⟨_, g6⟩ <;> (rw [g6] at hc; cases hc)
  · rename_i hno
    exact same rfl (fun e r xs ns hh hc => hno e r xs ns hh hc) h
end Go.MC

set_option linter.unusedVariables false
set_option linter.unusedSimpArgs false
namespace Go.MC
open Go.RowKit
theorem open_step {F : Fx} {k : K} (hk : HeapOK F k) {id e : Nat} {r : Ty} {xs : List r.den} {ns : List Nat} (hid : k.h id = some (.arr e r xs (.yes ns))) {j : Int} {p : List (Nat × Nat)} (hj0 : 0 ≤ j) (hj1 : j < (xs.length : Int)) {r2 : Ty} {ys : List r2.den}
    (hpr : projT r (xs.getD j.toNat r.dflt) p = some ⟨.slice r2, ys⟩) {i : Nat} (hfree : k.h i = none) (hbs : F.bs i ≤ F.bs id) {e' : Nat} (he : eAt r p ns = some e') {zs : List r.den} (hz : setRP r xs j p ⟨.slice r2, []⟩ = some zs) {o : Nat} (hpt : pathTy r p = some (.slice r2, o)) {g n c : Nat} (hν : k.ν id = .slice (some ⟨g, 0, none⟩) n c) :
    ∃ k' v0, k'.w = k.w ∧ k'.h = (k.put [(i, .arr e' r2 ys), (id, .arr e r zs (.yes ns (some (j, p, i))))]).h ∧ HeapOK F k' ∧ Le F k k' ∧ relC F k' (.arr i) v0 ∧ CellsAt k.w ⟨g, j.toNat * r.sz + o, none⟩ [v0] := by
  obtain ⟨vs, vs', hown, hrows, hl, hnd, hfill⟩ := hk.obj id _ hid
  obtain rfl : vs' = vs := hfill
  have hjl : j.toNat < xs.length := by omega
  obtain ⟨o', hpt', u, c1, v, es2, o1, oc, o2, rfl, hu, hc, hos, hreb⟩ := hrows.at hjl hpr
  rw [hpt] at hpt'
  cases hpt'
  obtain ⟨e2, v0, us, hes, rfl, h1, h2, h3, rfl⟩ := hc
  have he2 : e2 = e' := by
    unfold eAt at he
    rw [hes] at he
    simpa using he
  subst he2
  unfold setRP at hz
  split at hz
  case h_2 => cases hz
  rename_i x' hx'
  simp only [Option.some.injEq] at hz
  subst hz
  obtain ⟨x2, hx2, hrows2⟩ := hreb [] [.slice none 0 0] [] ⟨e2, .slice none 0 0, [], hes, rfl, .mt none, rfl, Nat.zero_le _, rfl⟩
  rw [hx'] at hx2
  cases hx2
  have hie : i ≠ id := by
    rintro rfl
    rw [hfree] at hid
    cases hid
  let k' : K := ⟨k.w, (k.put [(i, .arr e2 r2 ys), (id, .arr e r (xs.set j.toNat x') (.yes ns (some (j, p, i))))]).h, k.μ, fun x => if x = i then v0 else k.ν x, fun x => if x = id then o1 ++ ([] ++ o2) else if x = i then [] else k.nb x⟩
  have hh : ∀ x, k'.h x = if x = i then some (.arr e2 r2 ys) else if x = id then some (.arr e r (xs.set j.toNat x') (.yes ns (some (j, p, i)))) else k.h x := by
    intro x
    show (lkH _ x).or (k.h x) = _
    rw [lkH_two]
    split
    · rfl
    · split <;> simp
  have hνi : k'.ν i = v0 := if_pos rfl
  have hνid : k'.ν id = k.ν id := if_neg (Ne.symm hie)
  have hnbid : k'.nb id = o1 ++ ([] ++ o2) := if_pos rfl
  have hnb : k.nb id = o1 ++ ((ownB v0).toList ++ o2) := hos
  have howni : ∀ b, k'.own i b → ownB v0 = some b := by
    intro b hb
    unfold K.own at hb
    rw [hh, if_pos rfl] at hb
    dsimp only at hb
    rw [hνi] at hb
    exact hb
  have hownid : ∀ b, k'.own id b → k.own id b ∧ ownB v0 ≠ some b := by
    intro b hb
    unfold K.own at hb
    rw [hh, if_neg (Ne.symm hie), if_pos rfl] at hb
    dsimp only at hb
    rw [hνid, hnbid] at hb
    have hin : ∀ b', ownB v0 = some b' → b' ∉ (ownB (k.ν id)).toList ++ (o1 ++ o2) := by
      intro b' hb' hm
      rw [hnb, hb'] at hnd
      have hperm : ((ownB (k.ν id)).toList ++ (o1 ++ ((some b').toList ++ o2))).Perm (b' :: ((ownB (k.ν id)).toList ++ (o1 ++ o2))) := by
        have e1 : (ownB (k.ν id)).toList ++ (o1 ++ ((some b').toList ++ o2)) = ((ownB (k.ν id)).toList ++ o1) ++ b' :: o2 := by simp
        have e2 : (ownB (k.ν id)).toList ++ (o1 ++ o2) = ((ownB (k.ν id)).toList ++ o1) ++ o2 := by simp
        rw [e1, e2]
        exact List.perm_middle
      exact (List.nodup_cons.1 (hperm.nodup_iff.1 hnd)).1 hm
    rcases hb with hb | hb
    · exact ⟨own_block hid hb, fun h => hin b h (List.mem_append.2 (.inl (by simp [hb])))⟩
    · refine ⟨(own_yes hid).2 (.inr ?_), fun h => hin b h (List.mem_append.2 (.inr (by simpa using hb)))⟩
      rw [hnb]
      simp only [List.mem_append, List.nil_append] at hb ⊢
      rcases hb with hb | hb
      · exact .inl hb
      · exact .inr (.inr hb)
  have hv0own : ∀ b, ownB v0 = some b → k.own id b := fun b hb => (own_yes hid).2 (.inr (by rw [hnb, hb]; simp))
  have main := reown hk (k' := k') (fun x => x = id ∨ x = i) (Nat.le_refl _) (fun _ _ _ => rfl) rfl rfl rfl (fun x hx => ?_) (fun x hx => ?_) (fun x b hx hb => ?_) (fun x y b hx hy h1 h2 => ?_) (fun hle x ob hx ho => ?_)
  · obtain ⟨a, cc, hv0⟩ := h1.form
    refine ⟨k', v0, rfl, rfl, main.1, main.2, ⟨⟨a, _, cc, hv0⟩, ?_⟩, ?_⟩
    · rw [hh, if_pos rfl]
      exact hνi.symm
    · rcases hown.2 with ⟨a, hv, hn⟩ | ⟨g', cap, cur, hv, hcp, hB, hg, hnc, hcm, hcs, htk⟩
      · omega
      · rw [hν] at hv
        injection hv with h4 h5 h6
        injection h4 with h4
        injection h4 with h4
        subst h4
        have hcur : cur.toList = u ++ ([v0] ++ (v ++ cur.toList.drop (xs.length * r.sz))) := by
          have := List.take_append_drop (xs.length * r.sz) cur.toList
          rw [htk] at this
          exact this.symm.trans (by simp)
        have := cells_in (g := g) (T := e) (fr := (0, 0)) (w := k.w) (u := u) (c := [v0]) (v := v ++ cur.toList.drop (xs.length * r.sz)) (by rw [hg, ← hcur, Array.toArray_toList])
        rwa [hu] at this
  · have h1 : x ≠ id := fun h => hx (.inl h)
    have h2 : x ≠ i := fun h => hx (.inr h)
    exact ⟨by rw [hh, if_neg h2, if_neg h1], rfl, if_neg h2, by show (if x = id then _ else if x = i then _ else _) = _; rw [if_neg h1, if_neg h2]⟩
  · rcases hx with rfl | rfl
    · exact .inr ⟨e, r, xs, _, hid, hνid, .inl ⟨_, _, by rw [hh, if_neg (Ne.symm hie), if_pos rfl], by simp⟩⟩
    · exact .inl hfree
  · rcases hx with rfl | rfl
    · exact .inl ⟨x, .inl rfl, (hownid b hb).1⟩
    · exact .inl ⟨id, .inl rfl, hv0own b (howni b hb)⟩
  · rcases hx with rfl | rfl
    · rcases hy with rfl | rfl
      · rfl
      · exact absurd (howni b h2) (hownid b h1).2
    · rcases hy with rfl | rfl
      · exact absurd (howni b h1) (hownid b h2).2
      · rfl
  · rcases hx with rfl | rfl
    · rw [hh, if_neg (Ne.symm hie), if_pos rfl] at ho
      cases ho
      refine ⟨u ++ ([.slice none 0 0] ++ v), u ++ ([v0] ++ v), ?_, ?_, by simpa using hl, ?_, ?_⟩
      · rw [hνid]; simpa using hown
      · rw [hnbid]
        exact hrows2.move hle.ok hle.hp fun _ _ => rfl
      · rw [hνid, hnbid]
        rw [hnb] at hnd
        refine hnd.sublist ?_
        refine List.Sublist.append (List.Sublist.refl _) (List.Sublist.append (List.Sublist.refl _) ?_)
        exact List.Sublist.append (List.nil_sublist _) (List.Sublist.refl _)
      · refine ⟨r2, o, hj0, by simpa using hj1, hpt, ?_, ?_, ?_⟩
        · rw [← hu]; simp
        · show k'.h i ≠ none
          rw [hh, if_pos rfl]; simp
        · show _ = _
          rw [hνi]
          exact (set_mid u _ _ v hu.symm).symm
    · rw [hh, if_pos rfl] at ho
      cases ho
      refine ⟨us, ?_, hle.rdRows h2, h3⟩
      rw [hνi]
      exact ownsRow_base h1 hbs
section mem
variable {P : Program} {TT : Nat → Option TD}
theorem Does.after {F : Fx} {k k1 : K} {s : Sem Value} {v : AV} {o1 o2 : List (Nat × Ob)} (hw : k1.w = k.w) (hh : k1.h = (k.put o1).h) (hle : Le F k k1) (h : Does P F k1 s ⟨v, o2⟩) : Does P F k s ⟨v, o2 ++ o1⟩ := by
  obtain ⟨x, k2, h1, h2, h3, h4, h5⟩ := h
  refine ⟨x, k2, by rw [← hw]; exact h1, ?_, h3, hle.trans h4, h5⟩
  rw [h2]
  funext i
  show (lkH o2 i).or (k1.h i) = (lkH (o2 ++ o1) i).or (k.h i)
  rw [hh, lkH_append]
  show (lkH o2 i).or ((lkH o1 i).or (k.h i)) = _
  cases lkH o2 i <;> rfl
theorem loadD_does {F : Fx} {k : K} (hk : HeapOK F k) {S : St} {t : Nat} {td : TD} (htd : TDok P t td) {d : Dv} {c : List Value} {ad : Addr} (hc : CellsAt k.w ad c) (hr : Rd k.w (k.ok F) d.1 d.2 c) {v1 : V1} {R : List Nat} (h : Tells (loadD td d.1 d.2) S v1 R) :
    Does P F k (Instr.loadAt t (.pointer (some ad))) ⟨.w v1, []⟩ := by
  unfold loadD at h
  obtain ⟨_, R3, R4, h5, h6, _⟩ := tells_bind (Good.guard _) (fun _ => Good.pure _) h
  have hs := Nat.eq_of_beq_eq_true (tells_guard h5).1
  obtain ⟨rfl, _⟩ := tells_pure h6
  obtain ⟨v, h1, h2⟩ := asV_rel htd hr hc hs
  refine Does.pure hk ?_ h2
  simp only [Instr.loadAt, Instr.sureAddr, Sem.run_bind, Sem.run_pure, Result.andThen_ok]
  exact h1
theorem cells_of_row {w : World} {base e : Nat} {r : Ty} {n : Nat} {u c v : List Value} {v0 : Value} (hown : OwnsR w base e r.sz v0 n (u ++ (c ++ v))) {g m cap : Nat} (hν : v0 = .slice (some ⟨g, 0, none⟩) m cap) (hn : 0 < n) : CellsAt w ⟨g, u.length, none⟩ c := by
  rcases hown.2 with ⟨a, hv, h0⟩ | ⟨g', cap', cur, hv, hcp, hB, hg, hnc, hcm, hcs, htk⟩
  · omega
  · rw [hν] at hv
    injection hv with h4 h5 h6
    injection h4 with h4
    injection h4 with h4
    subst h4
    have hcur : cur.toList = u ++ (c ++ (v ++ cur.toList.drop (n * r.sz))) := by
      have := List.take_append_drop (n * r.sz) cur.toList
      rw [htk] at this
      exact this.symm.trans (by simp)
    exact cells_in (g := g) (T := e) (fr := (0, 0)) (w := w) (u := u) (c := c) (v := v ++ cur.toList.drop (n * r.sz)) (by rw [hg, ← hcur, Array.toArray_toList])
theorem loadAt_sound {F : Fx} {k : K} (hk : HeapOK F k) {S : St} (hS : k.h = lkH S.H) {dst : Option Nat} {t : Nat} {td : TD} (htd : TDok P t td) {c : C} {v1 : V1 × List (Nat × Ob)} {R : List Nat} (h : Tells (loadAt dst td c) S v1 R) {pv : Value} (hp : relC F k c pv) :
    Does P F k (Instr.loadAt t pv) ⟨.w v1.1, v1.2⟩ := by
  cases c with
  | pb id off =>
    obtain ⟨⟨cs, hcs⟩, rfl⟩ := hp
    unfold loadAt at h
    obtain ⟨o, R1, R2, h1, h2, _⟩ := tells_bind (Good.rdO _) (fun o => Good.all _) h
    obtain ⟨rfl, _⟩ := tells_rdO h1
    rw [← hS, hcs] at h2
    obtain ⟨_, R3, R4, h3, h4, _⟩ := tells_bind (Good.guard _) (fun _ => Good.all _) h2
    have hfit := Nat.le_of_ble_eq_true (tells_guard h3).1
    obtain ⟨vs, T, hheap, hrel⟩ := hk.obj id _ hcs
    have hlen := hrel.length
    obtain ⟨_, hd⟩ := hrel.take off
    obtain ⟨ht, _⟩ := hd.take td.sz
    have hsplit : vs = vs.take off ++ ((vs.drop off).take td.sz ++ (vs.drop off).drop td.sz) := by rw [List.take_append_drop, List.take_append_drop]
    have hcell : CellsAt k.w ⟨k.μ id, off, none⟩ ((vs.drop off).take td.sz) := by
      rw [hsplit] at hheap
      have := cells_in hheap
      rwa [List.length_take, Nat.min_eq_left (by omega)] at this
    cases ha : td.agg
    · rw [ha] at h4
      have h1 := (htd.noagg ha).1
      have hl : ((vs.drop off).take td.sz).length = 1 := by simp; omega
      generalize hcl : (cs.drop off).take td.sz = cl at h4 ht
      generalize (vs.drop off).take td.sz = vl at ht hcell hl
      match vl, hl with
      | [v], _ =>
        have := ht.length
        match cl, this with
        | [c], _ =>
          obtain ⟨rfl, _⟩ := tells_pure h4
          obtain ⟨v', vs', hv, hc, _⟩ := ht
          cases hv
          refine Does.pure hk ?_ hc
          simp only [Instr.loadAt, Instr.sureAddr, Sem.run_bind, Sem.run_pure, Result.andThen_ok]
          exact run_loadVar_one htd ha hcell
    · rw [ha] at h4
      obtain ⟨rfl, _⟩ := tells_pure h4
      refine Does.pure hk (v := .agg ((vs.drop off).take td.sz).toArray) ?_ ⟨_, rfl, ht⟩
      simp only [Instr.loadAt, Instr.sureAddr, Sem.run_bind, Sem.run_pure, Result.andThen_ok]
      exact run_loadVar_agg htd ha hcell (by simp; omega)
  | pd ty x =>
    obtain ⟨ad, vs, rfl, hok, hrd, hc⟩ := hp
    obtain ⟨v, _, _, h3, h4, _⟩ := tells_bind (good_loadD _ _ _) (fun _ => Good.pure _) h
    obtain ⟨rfl, _⟩ := tells_pure h4
    exact loadD_does hk htd (d := ⟨ty, x⟩) hc hrd h3
  | pa id j p =>
    unfold loadAt at h
    obtain ⟨q, _, _, hq, h, _⟩ := tells_bind (good_closeM _) (fun _ => Good.all _) h
    obtain ⟨k1, hw1, hh1, hk1, hle1, hid, hno, hfr⟩ := closeM_sound hk hS hq
    obtain ⟨q1, obs⟩ := q
    dsimp only at hid hno hh1
    have hp1 := hle1.c hp
    obtain ⟨_, hp1⟩ := hp1
    rw [hid] at hp1
    cases q1 with
    | none => exact (tells_fail h).elim
    | some ob =>
      cases ob with
      | box cs => exact (tells_fail h).elim
      | imm r xs => exact (tells_fail h).elim
      | gone => exact (tells_fail h).elim
      | arr e r xs dd =>
        obtain ⟨hj0, hj1, g, n, c, t', o, hν, hpt, rfl⟩ := hp1
        have hjl : j.toNat < xs.length := by omega
        have shallow : ∀ {k2 : K} {okx : Nat → Prop} {vs : List Value} {d : Dv} {v : V1} {R : List Nat}, HeapOK F k2 → OwnsR k2.w (F.bs id) e r.sz (k1.ν id) xs.length vs → RdRows k2.w okx r xs vs → projT r (xs.getD j.toNat r.dflt) p = some d → (∀ c, Rd k2.w okx d.1 d.2 c → Rd k2.w (k2.ok F) d.1 d.2 c) →
            Tells (loadD td d.1 d.2) S v R → Does P F k2 (Instr.loadAt t (.pointer (some ⟨g, j.toNat * r.sz + o, none⟩))) ⟨.w v, []⟩ := by
          intro k2 okx vs d v R hk2 hown hrows hpr hrd h4
          obtain ⟨o', hpt', u, c2, v2, rfl, hu, hc2, _⟩ := hrows.at' hjl hpr
          rw [hpt] at hpt'
          cases hpt'
          have := cells_of_row hown hν (by omega)
          rw [hu] at this
          exact loadD_does hk2 htd this (hrd _ hc2) h4
        cases dd with
        | no =>
          obtain ⟨d, R3, R4, h3, h4, _⟩ := tells_bind (Good.ofOpt _) (fun _ => Good.all _) h
          obtain ⟨hpr, _⟩ := tells_ofOpt h3
          obtain ⟨v, _, _, h5, h6, _⟩ := tells_bind (good_loadD _ _ _) (fun _ => Good.pure _) h4
          obtain ⟨rfl, _⟩ := tells_pure h6
          obtain ⟨vs, ho', hr, hl⟩ := hk1.obj id _ hid
          exact (shallow hk1 ho' hr hpr (fun _ h => h) h5).after hw1 hh1 hle1
        | yes ns hs =>
          cases hs with
          | some x => exact absurd rfl (hno e r xs ns x)
          | none =>
            obtain ⟨d, R3, R4, h3, h4, _⟩ := tells_bind (Good.ofOpt _) (fun _ => Good.all _) h
            obtain ⟨hpr, _⟩ := tells_ofOpt h3
            obtain ⟨vs, vs', ho', hr, hl, hd, hfill⟩ := hk1.obj id _ hid
            obtain rfl : vs' = vs := hfill
            cases hfl : d.1.flat with
            | true =>
              rw [hfl] at h4
              obtain ⟨v, _, _, h5, h6, _⟩ := tells_bind (good_loadD _ _ _) (fun _ => Good.pure _) (show Tells (M.bind (loadD td d.1 d.2) fun v => M.pure (v, obs)) S v1 _ from h4)
              obtain ⟨rfl, _⟩ := tells_pure h6
              exact (shallow hk1 ho' (hr.rd (ok' := fun b => k1.ok F b ∨ b ∈ k1.nb id) (fun _ h => .inl h) (fun _ h => .inr h)) hpr (fun _ h => h.flat hfl) h5).after hw1 hh1 hle1
            | false =>
              rw [hfl] at h4
              obtain ⟨v, _, _, h5, h6, _⟩ := tells_bind (Good.all _) (fun _ => Good.pure _) (show Tells (M.bind (openAt dst td id e r xs ns j p d) fun v => M.pure (v.1, v.2 ++ obs)) S v1 _ from h4)
              obtain ⟨rfl, _⟩ := tells_pure h6
              refine Does.after hw1 hh1 hle1 ?_
              have dem : ∀ {R : List Nat}, Tells (M.bind (guardB (!isPar id)) fun _ => M.bind (loadD td d.1 d.2) fun v => M.pure (v, [(id, Ob.arr e r xs)])) S v R → Does P F k1 (Instr.loadAt t (.pointer (some ⟨g, j.toNat * r.sz + o, none⟩))) ⟨.w v.1, v.2⟩ := by
                intro R h
                obtain ⟨_, _, _, hg, h, _⟩ := tells_bind (Good.guard _) (fun _ => Good.all _) h
                have hpar : isPar id = false := by simpa using (tells_guard hg).1
                obtain ⟨v', _, _, h7, h8, _⟩ := tells_bind (good_loadD _ _ _) (fun _ => Good.pure _) h
                obtain ⟨rfl, _⟩ := tells_pure h8
                obtain ⟨hk2, hle2⟩ := demote_step hk1 hid hpar (zs := xs) rfl ho' hd (fun ok' h1 h2 => hr.rd h1 h2)
                have hid2 : (k1.put [(id, Ob.arr e r xs)]).h id = some (.arr e r xs) := by simp [K.put, lkH_one]
                obtain ⟨vs2, ho2, hr2, _⟩ := hk2.obj id _ hid2
                exact Does.after (k := k1) (k1 := k1.put [(id, Ob.arr e r xs)]) (o1 := [(id, Ob.arr e r xs)]) rfl rfl hle2 (shallow hk2 ho2 hr2 hpr (fun _ h => h) h7)
              obtain ⟨dt, dx⟩ := d
              cases dt with
              | slice r2 =>
                have h5 : Tells (M.bind (dstOf dst) fun d => M.bind (guardB (Nat.blt d 50000 && (!td.agg && Nat.beq 1 td.sz))) fun _ => M.bind (rdO (holeId id d)) fun o => M.bind (guardB o.isNone) fun _ => M.bind (ofOpt (eAt r p ns)) fun e' => M.bind (ofOpt (setRP r xs j p ⟨.slice r2, []⟩)) fun zs =>
                    M.pure (V1.one (.arr (holeId id d)), [(holeId id d, Ob.arr e' r2 dx), (id, .arr e r zs (.yes ns (some (j, p, holeId id d))))])) S v _ := h5
                obtain ⟨dn, _, _, _, h5, _⟩ := tells_bind (Good.all _) (fun _ => Good.all _) h5
                obtain ⟨_, _, _, hg, h5, _⟩ := tells_bind (Good.guard _) (fun _ => Good.all _) h5
                have hg := (tells_guard hg).1
                simp only [Bool.and_eq_true, Bool.not_eq_true'] at hg
                obtain ⟨hdl, hag, hsz⟩ := hg
                obtain ⟨oo, _, _, ho, h5, _⟩ := tells_bind (Good.rdO _) (fun _ => Good.all _) h5
                obtain ⟨rfl, _⟩ := tells_rdO ho
                obtain ⟨_, _, _, hg2, h5, _⟩ := tells_bind (Good.guard _) (fun _ => Good.all _) h5
                have hfree : k1.h (holeId id dn) = none := hfr _ (by
                  rw [hS]
                  have := (tells_guard hg2).1
                  cases hh : lkH S.H (holeId id dn) with
                  | none => rfl
                  | some o => rw [hh] at this; cases this)
                obtain ⟨e', _, _, he, h5, _⟩ := tells_bind (Good.ofOpt _) (fun _ => Good.all _) h5
                obtain ⟨zs, _, _, hz, h5, _⟩ := tells_bind (Good.ofOpt _) (fun _ => Good.all _) h5
                obtain ⟨rfl, _⟩ := tells_pure h5
                obtain ⟨o', hpt'⟩ : ∃ o', pathTy r p = some (.slice r2, o') := by
                  obtain ⟨o', h7, _⟩ := hr.at hjl hpr
                  exact ⟨o', h7⟩
                rw [hpt] at hpt'
                cases hpt'
                have hbs : F.bs (holeId id dn) ≤ F.bs id := Nat.le_refl _
                obtain ⟨k2, v0, g1, g2, g3, g4, g5, g6⟩ := open_step hk1 hid hj0 hj1 hpr hfree hbs (tells_ofOpt he).1 (tells_ofOpt hz).1 hpt hν
                refine ⟨v0, k2, ?_, g2, g3, g4, g5⟩
                rw [g1]
                simp only [Instr.loadAt, Instr.sureAddr, Sem.run_bind, Sem.run_pure, Result.andThen_ok]
                exact run_loadVar_one htd hag g6
              | _ => exact dem h5
  | _ => exact (tells_fail h).elim
end mem
end Go.MC

set_option linter.unusedVariables false
set_option linter.unusedSimpArgs false
namespace Go.MC
open Go.RowKit
theorem cells_oneCell {v : Value} (h : v.oneCell' = true) : v.cells = #[v] := by
  cases v <;> first | rfl | simp [Value.oneCell'] at h
theorem relV_cells {F : Fx} {k : K} {v1 : V1} {v : Value} (h : relV F k v1 v) (hn : v1.cells.all C.known = true) : ∃ vs, v.cells = vs.toArray ∧ relCs F k v1.cells vs := by
  cases v1 with
  | one c =>
    have hc : c.known = true := by simpa [V1.cells] using hn
    have ho := relC.oneCell (c := c) h hc
    exact ⟨[v], by rw [cells_oneCell ho], v, [], rfl, h, rfl⟩
  | agg cs =>
    obtain ⟨vs, rfl, hr⟩ := h
    exact ⟨vs, rfl, hr⟩
theorem put_put (k : K) (a b : List (Nat × Ob)) : ((k.put a).put b).h = (k.put (b ++ a)).h := by
  funext i
  simp only [K.put, lkH_append]
  cases lkH b i <;> simp
theorem splice_rel {F : Fx} {k : K} {cs ds : List C} {us vs : List Value} (h : relCs F k cs us) (h' : relCs F k ds vs) (off : Nat) : relCs F k (splice cs off ds) (us.take off ++ (vs ++ us.drop (off + vs.length))) := by
  unfold splice
  rw [h'.length]
  exact (h.take off).1.append (h'.append (h.take (off + ds.length)).2)
def blk (k : K) (ids : List Nat) : List Nat := ids.flatMap fun id => (ownB (k.ν id)).toList
theorem lkH_gone : ∀ (ids : List Nat) (x : Nat), lkH (ids.map fun i => (i, Ob.gone)) x = if x ∈ ids then some .gone else none
  | [], x => rfl
  | i :: ids, x => by
    simp only [List.map_cons, lkH]
    by_cases h : i = x
    · subst h; simp [Nat.beq_refl]
    · have : Nat.beq i x = false := by
        cases hb : Nat.beq i x
        · rfl
        · exact absurd (Nat.eq_of_beq_eq_true hb) h
      rw [this, cond_false, lkH_gone ids x]
      have hx : x ≠ i := fun e => h e.symm
      simp [hx]
theorem blk_nodup {F : Fx} {k : K} (hk : HeapOK F k) : ∀ {ids : List Nat}, (∀ i ∈ ids, ∃ e r xs, k.h i = some (.arr e r xs)) → ids.Nodup → (blk k ids).Nodup
  | [], _, _ => List.nodup_nil
  | i :: ids, h, hn => by
    obtain ⟨h1, h2⟩ := List.nodup_cons.1 hn
    have e : blk k (i :: ids) = (ownB (k.ν i)).toList ++ blk k ids := by simp [blk]
    rw [e]
    refine List.nodup_append.2 ⟨by cases (ownB (k.ν i)) <;> simp, blk_nodup hk (fun j hj => h j (by simp [hj])) h2, fun a ha b hb hab => ?_⟩
    subst hab
    obtain ⟨j, hj, h3⟩ := List.mem_flatMap.1 hb
    obtain ⟨e1, r1, xs1, h4⟩ := h i (by simp)
    obtain ⟨e2, r2, xs2, h5⟩ := h j (by simp [hj])
    have o1 : k.own i a := own_block h4 (by simpa using ha)
    have o2 : k.own j a := own_block h5 (by simpa using h3)
    exact h1 (hk.inj i j a o1 o2 ▸ hj)
section mem
variable {P : Program}
theorem run_storeVar {t : Nat} {td : TD} (h : TDok P t td) {w : World} {ad : Addr} {v : Value} {vs : List Value} (hc : v.cells = vs.toArray) (hl : vs.length = td.sz) {w' : World} (hs : (storeCells ad vs).run P w = .ok () w') : (storeVar t ad v).run P w = .ok () w' := by
  simp [storeVar, run_sizeOf' h, hc, hl, hs]
def DoesU (P : Program) (F : Fx) (k : K) (s : Sem Unit) (U : Upd) : Prop :=
  ∃ k', s.run P k.w = .ok () k'.w ∧ k'.h = (k.put U.obs).h ∧ HeapOK F k' ∧ Le F k k' ∧ relA F k' U.val undef
theorem store_row {w : World} {base e : Nat} {sz n : Nat} {u c v : List Value} {v0 : Value} (hown : OwnsR w base e sz v0 n (u ++ (c ++ v))) {g m cap : Nat} (hν : v0 = .slice (some ⟨g, 0, none⟩) m cap) (hn : 0 < n) {vs : List Value} (hl : vs.length = c.length) (h1 : ∀ v ∈ vs, v.oneCell' = true) :
    ∃ w', (storeCells ⟨g, u.length, none⟩ vs).run P w = .ok () w' ∧ OwnsR w' base e sz v0 n (u ++ (vs ++ v)) ∧ w'.heap.size = w.heap.size ∧ (∀ b, b ≠ g → w'.heap[b]? = w.heap[b]?) ∧ w'.os = w.os ∧ w'.tape = w.tape ∧ w'.output = w.output ∧ ownB v0 = some g := by
  rcases hown.2 with ⟨a, hv, h0⟩ | ⟨g', cap', cur, hv, hcp, hB, hg, hnc, hcm, hcs, htk⟩
  · omega
  have hν0 := hν
  rw [hν] at hv
  injection hv with h4 h5 h6
  injection h4 with h4
  injection h4 with h4
  subst h4 h5 h6
  have hcur : cur.toList = (u ++ (c ++ v)) ++ cur.toList.drop (m * sz) := by
    have := List.take_append_drop (m * sz) cur.toList
    rw [htk] at this
    exact this.symm
  generalize hrest : cur.toList.drop (m * sz) = rest at hcur
  have hg' : w.heap[g]? = some (.cells ((u ++ (c ++ v)) ++ rest).toArray e (0, 0)) := by rw [hg, ← hcur, Array.toArray_toList]
  obtain ⟨w', hrun, hw1, hw2, hw3, hw4, hw5, hw6⟩ := store_cells P hg' (off := u.length) (vs := vs) (by simp only [List.length_append]; omega) h1
  have hnew : ((u ++ (c ++ v)) ++ rest).take u.length ++ (vs ++ ((u ++ (c ++ v)) ++ rest).drop (u.length + vs.length)) = (u ++ (vs ++ v)) ++ rest := by
    have e1 : u ++ (c ++ v) ++ rest = u ++ (c ++ (v ++ rest)) := by simp
    rw [e1, List.take_left, ← List.drop_drop, List.drop_left, hl, List.drop_left]
    simp
  rw [hnew] at hw1
  have hlen := hown.1
  refine ⟨w', hrun, ⟨?_, .inr ⟨g, cap, _, hν, hcp, hB, hw1, hnc, hcm, ?_, ?_⟩⟩, hw2, hw3, hw4, hw5, hw6, by rw [hν]; exact ownB_pos hcp⟩
  · simp only [List.length_append] at hlen ⊢; omega
  · have e2 : cur.size = cur.toList.length := by simp
    rw [← hcs, e2, hcur]
    simp only [List.size_toArray, List.length_append]; omega
  · have e3 : (u ++ (vs ++ v)).length = m * sz := by simp only [List.length_append] at hlen ⊢; omega
    simp only [List.toList_toArray]
    rw [← e3, List.take_left]
theorem store_own {F : Fx} {k : K} (hk : HeapOK F k) {t : Nat} {td : TD} (htd : TDok P t td) {id e : Nat} {r : Ty} {xs : List r.den} {ns : List Nat} {hs : Option (Int × List (Nat × Nat) × Nat)} (hid : k.h id = some (.arr e r xs (.yes ns hs))) {j : Int} {p : List (Nat × Nat)} {g n c o : Nat} {t' : Ty}
    (hj0 : 0 ≤ j) (hj1 : j < (xs.length : Int)) (hν : k.ν id = .slice (some ⟨g, 0, none⟩) n c) (hpt : pathTy r p = some (t', o)) (hhs : hs = none ∨ ∃ i, hs = some (j, p, i)) {d : Dv} (hpr : projT r (xs.getD j.toNat r.dflt) p = some d)
    {ids : List Nat} (hids : ∀ i ∈ ids, i ≠ id ∧ ∃ e r xs, k.h i = some (.arr e r xs)) (hidn : ids.Nodup) {y : d.1.den} {vs : List Value} {es2 : List Nat} (hy : OwnRd k.w (k.ok F) (F.bs id) d.1 y (ns.drop (sliP r p)) vs es2 (blk k ids)) {x' : r.den} (hset : setP r (xs.getD j.toNat r.dflt) p ⟨d.1, y⟩ = some x')
    {xv : Value} (hcells : xv.cells = vs.toArray) (hvl : vs.length = td.sz) (hone : ∀ v ∈ vs, v.oneCell' = true) :
    DoesU P F k (Instr.storeAt t (.pointer (some ⟨g, j.toNat * r.sz + o, none⟩)) xv) ⟨.w (.one .u), (id, .arr e r (xs.set j.toNat x') (.yes ns)) :: ids.map fun i => (i, Ob.gone)⟩ := by
  have hjl : j.toNat < xs.length := by omega
  obtain ⟨ws, ws', hown, hrows, hl, hnd, hfill⟩ := hk.obj id _ hid
  obtain ⟨o', hpt', u, c1, v, es3, o1, oc, o2, rfl, hu, hc, hos, hreb⟩ := hrows.at hjl hpr
  rw [hpt] at hpt'
  cases hpt'
  have hes : es2 = es3 := by rw [hy.rest, hc.rest]
  subst hes
  obtain ⟨x2, hx2, hrows2⟩ := hreb y vs _ hy
  rw [hset] at hx2
  cases hx2
  obtain ⟨c2, hc2l, hown2⟩ : ∃ c2, c2.length = c1.length ∧ OwnsR k.w (F.bs id) e r.sz (k.ν id) xs.length (u ++ (c2 ++ v)) := by
    rcases hhs with rfl | ⟨i, rfl⟩
    · obtain rfl : ws' = u ++ (c1 ++ v) := hfill
      exact ⟨c1, rfl, hown⟩
    · obtain ⟨r2', o', _, _, hpt2, hnil, _, rfl⟩ := hfill
      dsimp only at hpt2 hown
      rw [hpt] at hpt2
      simp only [Option.some.injEq, Prod.mk.injEq] at hpt2
      obtain ⟨ht2, rfl⟩ := hpt2
      have hc1 : c1.length = 1 := by rw [hc.length, ht2]; rfl
      match c1, hc1 with
      | [v0], _ =>
        have hset2 : (u ++ ([v0] ++ v)).set (j.toNat * r.sz + o) (k.ν i) = u ++ ([k.ν i] ++ v) := set_mid u _ _ v hu.symm
        rw [hset2] at hown
        exact ⟨[k.ν i], rfl, hown⟩
  have hyl := hy.length
  have hcl := hc.length
  obtain ⟨w', hrun, hw1, hw2, hw3, hw4, hw5, hw6, hgb⟩ := store_row (P := P) hown2 hν (by omega) (vs := vs) (by omega) hone
  rw [hu] at hrun
  let k' : K := ⟨w', (k.put ((id, .arr e r (xs.set j.toNat x') (.yes ns)) :: ids.map fun i => (i, Ob.gone))).h, k.μ, k.ν, fun x => if x = id then o1 ++ (blk k ids ++ o2) else k.nb x⟩
  have hgone : ∀ x, lkH (ids.map fun i => (i, Ob.gone)) x = if x ∈ ids then some .gone else none := fun x => lkH_gone ids x
  have hh : ∀ x, k'.h x = if x = id then some (.arr e r (xs.set j.toNat x') (.yes ns)) else if x ∈ ids then some .gone else k.h x := by
    intro x
    show (lkH ([(id, Ob.arr e r (xs.set j.toNat x') (.yes ns))] ++ ids.map fun i => (i, Ob.gone)) x).or (k.h x) = _
    rw [lkH_append, lkH_one, hgone]
    split
    · rfl
    · split <;> simp
  have hnbid : k'.nb id = o1 ++ (blk k ids ++ o2) := if_pos rfl
  have hblk : ∀ b, b ∈ blk k ids → ∃ i ∈ ids, k.own i b := by
    intro b hb
    obtain ⟨i, hi, h1⟩ := List.mem_flatMap.1 hb
    obtain ⟨_, e1, r1, xs1, h2⟩ := hids i hi
    exact ⟨i, hi, own_block h2 (by simpa using h1)⟩
  have hgown : k.own id g := own_block hid hgb
  have hosub : ∀ b, b ∈ o1 ∨ b ∈ o2 → k.own id b := fun b hb => (own_yes hid).2 (.inr (by rw [hos]; rcases hb with hb | hb <;> simp [hb]))
  have hnotid : ∀ i ∈ ids, ∀ b, ¬ k'.own i b := by
    intro i hi b hb
    unfold K.own at hb
    rw [hh, if_neg (hids i hi).1, if_pos hi] at hb
    exact hb
  have hownid : ∀ b, k'.own id b → k.own id b ∨ ∃ i ∈ ids, k.own i b := by
    intro b hb
    unfold K.own at hb
    rw [hh, if_pos rfl] at hb
    dsimp only at hb
    rw [hnbid] at hb
    rcases hb with hb | hb
    · exact .inl (own_block hid hb)
    · simp only [List.mem_append] at hb
      rcases hb with hb | hb | hb
      · exact .inl (hosub b (.inl hb))
      · exact .inr (hblk b hb)
      · exact .inl (hosub b (.inr hb))
  have hdis : ∀ b, k.own id b → b ∉ blk k ids := by
    intro b h1 h2
    obtain ⟨i, hi, h3⟩ := hblk b h2
    exact (hids i hi).1 (hk.inj i id b h3 h1)
  have hblkn : (blk k ids).Nodup := blk_nodup hk (fun i hi => (hids i hi).2) hidn
  have hkeep : ∀ b, b ∈ o1 ++ (blk k ids ++ o2) → w'.heap[b]? = k.w.heap[b]? := by
    intro b hb
    refine hw3 b ?_
    rintro rfl
    simp only [List.mem_append] at hb
    rw [hgb, hos] at hnd
    have hn1 := (List.nodup_cons.1 hnd).1
    rcases hb with hb | hb | hb
    · exact hn1 (by simp [hb])
    · exact hdis b hgown hb
    · exact hn1 (by simp [hb])
  have main := reown hk (k' := k') (fun x => x = id ∨ x ∈ ids) (Nat.le_of_eq hw2.symm) (fun b hb hn => hw3 b (by rintro rfl; exact hn id (.inl rfl) hgown)) hw4 hw5 hw6 (fun x hx => ?_) (fun x hx => ?_) (fun x b hx hb => ?_) (fun x y b hx hy h1 h2 => ?_) (fun hle x ob hx ho => ?_)
  · refine ⟨k', ?_, rfl, main.1, main.2, trivial⟩
    simp only [Instr.storeAt, Instr.sureAddr, Sem.run_bind, Sem.run_pure, Result.andThen_ok]
    exact run_storeVar htd hcells hvl hrun
  · have h1 : x ≠ id := fun h => hx (.inl h)
    have h2 : x ∉ ids := fun h => hx (.inr h)
    exact ⟨by rw [hh, if_neg h1, if_neg h2], rfl, rfl, if_neg h1⟩
  · rcases hx with rfl | hx
    · exact .inr ⟨e, r, xs, _, hid, rfl, .inl ⟨_, _, by rw [hh, if_pos rfl], by simp⟩⟩
    · obtain ⟨hne, e1, r1, xs1, h2⟩ := hids x hx
      exact .inr ⟨e1, r1, xs1, _, h2, rfl, .inr (.inr (by rw [hh, if_neg hne, if_pos hx]))⟩
  · rcases hx with rfl | hx
    · rcases hownid b hb with h1 | ⟨i, hi, h1⟩
      · exact .inl ⟨x, .inl rfl, h1⟩
      · exact .inl ⟨i, .inr hi, h1⟩
    · exact absurd hb (hnotid x hx b)
  · rcases hx with rfl | hx
    · rcases hy with rfl | hy
      · rfl
      · exact absurd h2 (hnotid y hy b)
    · exact absurd h1 (hnotid x hx b)
  · rcases hx with rfl | hx
    · rw [hh, if_pos rfl] at ho
      cases ho
      refine ⟨_, _, by simpa using hw1, ?_, by simpa using hl, ?_, rfl⟩
      · rw [hnbid]
        exact hrows2.move hle.ok hle.hp hkeep
      · rw [hnbid]
        show ((ownB (k.ν x)).toList ++ (o1 ++ (blk k ids ++ o2))).Nodup
        rw [hos] at hnd
        have hnd2 : (((ownB (k.ν x)).toList ++ o1) ++ o2).Nodup := by
          refine hnd.sublist ?_
          rw [List.append_assoc]
          exact List.Sublist.append (List.Sublist.refl _) (List.Sublist.append (List.Sublist.refl _) (List.sublist_append_right _ _))
        have hperm : ((ownB (k.ν x)).toList ++ (o1 ++ (blk k ids ++ o2))).Perm ((((ownB (k.ν x)).toList ++ o1) ++ o2) ++ blk k ids) := by
          have e1 : (ownB (k.ν x)).toList ++ (o1 ++ (blk k ids ++ o2)) = ((ownB (k.ν x)).toList ++ o1) ++ (blk k ids ++ o2) := by simp
          rw [e1, List.append_assoc _ o2]
          exact List.Perm.append_left _ List.perm_append_comm
        refine hperm.nodup_iff.2 (List.nodup_append.2 ⟨hnd2, hblkn, fun a ha b hb hab => ?_⟩)
        subst hab
        refine hdis a ?_ hb
        simp only [List.mem_append] at ha
        rcases ha with (ha | ha) | ha
        · exact own_block hid (by simpa using ha)
        · exact hosub a (.inl ha)
        · exact hosub a (.inr ha)
    · rw [hh, if_neg (hids x hx).1, if_pos hx] at ho
      cases ho
      trivial
theorem store_let {F : Fx} {k : K} (hk : HeapOK F k) {t : Nat} {td : TD} (htd : TDok P t td) {id e : Nat} {r : Ty} {xs : List r.den} {ns : List Nat} {hs : Option (Int × List (Nat × Nat) × Nat)} (hid : k.h id = some (.arr e r xs (.yes ns hs))) (hp : isPar id = false) {j : Int} {p : List (Nat × Nat)} {g n c o : Nat} {t' : Ty}
    (hj0 : 0 ≤ j) (hj1 : j < (xs.length : Int)) (hν : k.ν id = .slice (some ⟨g, 0, none⟩) n c) (hpt : pathTy r p = some (t', o)) (hhs : hs = none ∨ ∃ i, hs = some (j, p, i)) {d : Dv} (hpr : projT r (xs.getD j.toNat r.dflt) p = some d)
    {y : d.1.den} {vs : List Value} (hy : Rd k.w (k.ok F) d.1 y vs) {x' : r.den} (hset : setP r (xs.getD j.toNat r.dflt) p ⟨d.1, y⟩ = some x')
    {xv : Value} (hcells : xv.cells = vs.toArray) (hvl : vs.length = td.sz) (hone : ∀ v ∈ vs, v.oneCell' = true) :
    DoesU P F k (Instr.storeAt t (.pointer (some ⟨g, j.toNat * r.sz + o, none⟩)) xv) ⟨.w (.one .u), [(id, .arr e r (xs.set j.toNat x'))]⟩ := by
  have hjl : j.toNat < xs.length := by omega
  obtain ⟨ws, ws', hown, hrows, hl, hnd, hfill⟩ := hk.obj id _ hid
  obtain ⟨o', hpt', u, c1, v, es3, o1, oc, o2, rfl, hu, hc, hos, hreb⟩ := hrows.at hjl hpr
  rw [hpt] at hpt'
  cases hpt'
  obtain ⟨c2, hc2l, hown2⟩ : ∃ c2, c2.length = c1.length ∧ OwnsR k.w (F.bs id) e r.sz (k.ν id) xs.length (u ++ (c2 ++ v)) := by
    rcases hhs with rfl | ⟨i, rfl⟩
    · obtain rfl : ws' = u ++ (c1 ++ v) := hfill
      exact ⟨c1, rfl, hown⟩
    · obtain ⟨r2', o', _, _, hpt2, hnil, _, rfl⟩ := hfill
      dsimp only at hpt2 hown
      rw [hpt] at hpt2
      simp only [Option.some.injEq, Prod.mk.injEq] at hpt2
      obtain ⟨ht2, rfl⟩ := hpt2
      have hc1 : c1.length = 1 := by rw [hc.length, ht2]; rfl
      match c1, hc1 with
      | [v0], _ =>
        have hset2 : (u ++ ([v0] ++ v)).set (j.toNat * r.sz + o) (k.ν i) = u ++ ([k.ν i] ++ v) := set_mid u _ _ v hu.symm
        rw [hset2] at hown
        exact ⟨[k.ν i], rfl, hown⟩
  have hyl := hy.length
  have hcl := hc.length
  obtain ⟨w', hrun, hw1, hw2, hw3, hw4, hw5, hw6, hgb⟩ := store_row (P := P) hown2 hν (by omega) (vs := vs) (by omega) hone
  rw [hu] at hrun
  have hgown : k.own id g := own_block hid hgb
  let k' : K := ⟨w', (k.put [(id, .arr e r (xs.set j.toNat x'))]).h, k.μ, k.ν, k.nb⟩
  have hh : ∀ x, k'.h x = if x = id then some (.arr e r (xs.set j.toNat x')) else k.h x := by
    intro x
    show (lkH [(id, _)] x).or (k.h x) = _
    rw [lkH_one]
    split <;> simp
  have hidown : ∀ b, k'.own id b → ownB (k.ν id) = some b := by
    intro b hb
    unfold K.own at hb
    rw [hh, if_pos rfl] at hb
    exact hb
  have main := reown hk (k' := k') (fun x => x = id) (Nat.le_of_eq hw2.symm) (fun b hb hn => hw3 b (by rintro rfl; exact hn id rfl hgown)) hw4 hw5 hw6 (fun x hx => ⟨by rw [hh, if_neg hx], rfl, rfl, rfl⟩) (fun x hx => ?_) (fun x b hx hb => ?_) (fun x y b hx hy _ _ => hx.trans hy.symm) (fun hle x ob hx ho => ?_)
  · refine ⟨k', ?_, rfl, main.1, main.2, trivial⟩
    simp only [Instr.storeAt, Instr.sureAddr, Sem.run_bind, Sem.run_pure, Result.andThen_ok]
    exact run_storeVar htd hcells hvl hrun
  · subst hx
    exact .inr ⟨e, r, xs, _, hid, rfl, .inl ⟨_, .no, by rw [hh, if_pos rfl], by simp⟩⟩
  · subst hx
    exact .inl ⟨x, rfl, own_block hid (hidown b hb)⟩
  · subst hx
    rw [hh, if_pos rfl] at ho
    cases ho
    have hnbok : ∀ b ∈ k.nb x, k'.ok F b := by
      intro b hb
      have hbo : k.own x b := (own_yes hid).2 (.inr hb)
      have hB := (hk.rng x b hbo).1
      refine .inr ⟨hB, by rw [hw2]; exact (hk.rng x b hbo).2, fun y hy => ?_⟩
      by_cases hyx : y = x
      · subst hyx
        have h1 := hidown b hy
        rw [h1] at hnd
        simp only [Option.toList_some, List.singleton_append, List.nodup_cons] at hnd
        exact hnd.1 hb
      · have h2 : k.own y b := by
          unfold K.own at hy ⊢
          rw [hh, if_neg hyx] at hy
          exact hy
        exact hyx (hk.inj y x b h2 hbo)
    have hr := hrows.rd (ok' := k'.ok F) hle.ok hnbok
    obtain ⟨o3, hpt3, u3, c3, v3, hvs, hu3, hc3, hreb3⟩ := hr.at' hjl hpr
    rw [hpt] at hpt3
    cases hpt3
    obtain ⟨x2, hx2, hr2⟩ := hreb3 y vs (hy.mono hle.ok fun _ _ _ => rfl)
    rw [hset] at hx2
    cases hx2
    have hsp := List.append_inj hvs (by omega)
    obtain ⟨rfl, hsp⟩ := hsp
    have hsp := List.append_inj hsp (by rw [hc.length, hc3.length])
    obtain ⟨_, rfl⟩ := hsp
    refine ⟨_, by simpa using hw1, hr2.mono (fun _ h => h) (fun b hb hlt => ?_), by simpa using hl⟩
    refine hw3 b ?_
    rintro rfl
    have hown' : k'.own x b := by
      unfold K.own
      rw [hh, if_pos rfl]
      exact hgb
    rcases hb with hb | hb
    · rcases (hk.rng x b hgown).1 with h1 | h1
      · have := F.lt b hb; omega
      · exact F.ne b hb h1
    · exact hb.2.2 x hown'
end mem
end Go.MC

set_option linter.unusedVariables false
set_option linter.unusedSimpArgs false
namespace Go.MC
open Go.RowKit
theorem ownM_sound {F : Fx} {k : K} (hk : HeapOK F k) {S : St} (hS : k.h = lkH S.H) : ∀ {t : Ty} {cs : List C} {es : List Nat} {q : t.den × List C × List Nat × List Nat} {R : List Nat}, Tells (ownM t cs es) S (some q) R → ∀ {vs : List Value}, relCs F k cs vs →
    ∃ u v, vs = u ++ v ∧ relCs F k q.2.1 v ∧ (∀ id ∈ q.2.2.2, ∃ e r xs, k.h id = some (.arr e r xs) ∧ isPar id = false) ∧ OwnRd k.w (k.ok F) 0 t q.1 es u q.2.2.1 (blk k q.2.2.2)
  | .pair a b, cs, es, q, R, h, vs, hv => by
    unfold ownM at h
    obtain ⟨o1, _, _, h1, h, _⟩ := tells_bind (good_ownM _ _ _) (fun _ => Good.all _) h
    cases o1 with
    | none => obtain ⟨h2, _⟩ := tells_pure h; cases h2
    | some p1 =>
      obtain ⟨o2, _, _, h2, h, _⟩ := tells_bind (good_ownM _ _ _) (fun _ => Good.all _) h
      cases o2 with
      | none => obtain ⟨h3, _⟩ := tells_pure h; cases h3
      | some p2 =>
        obtain ⟨h3, _⟩ := tells_pure h
        simp only [Option.some.injEq] at h3
        subst h3
        obtain ⟨u1, v1, rfl, a1, a2, a3⟩ := ownM_sound hk hS h1 hv
        obtain ⟨u2, v2, rfl, b1, b2, b3⟩ := ownM_sound hk hS h2 a1
        refine ⟨u1 ++ u2, v2, by simp, b1, fun id hi => ?_, u1, u2, _, _, _, rfl, a3, b3, by simp [blk]⟩
        rcases List.mem_append.1 hi with hi | hi
        · exact a2 id hi
        · exact b2 id hi
  | .slice r, cs, es, q, R, h, vs, hv => by
    cases cs with
    | nil => obtain ⟨h3, _⟩ := tells_pure h; cases h3
    | cons c cs =>
      cases es with
      | nil => cases c <;> (obtain ⟨h3, _⟩ := tells_pure h; cases h3)
      | cons e es =>
        obtain ⟨v, vs', rfl, h1, h2⟩ := hv
        cases c with
        | emp =>
          obtain ⟨h3, _⟩ := tells_pure h
          simp only [Option.some.injEq] at h3
          subst h3
          have h1 : v = .slice none 0 0 := h1
          subst h1
          exact ⟨[_], vs', rfl, h2, fun _ h => by simp at h, e, _, [], rfl, rfl, .mt none, rfl, Nat.zero_le _, rfl⟩
        | mt =>
          obtain ⟨h3, _⟩ := tells_pure h
          simp only [Option.some.injEq] at h3
          subst h3
          obtain ⟨a, rfl⟩ := h1
          exact ⟨[_], vs', rfl, h2, fun _ h => by simp at h, e, _, [], rfl, rfl, .mt a, rfl, Nat.zero_le _, by rw [ownB_zero]; rfl⟩
        | arr id =>
          unfold ownM at h
          obtain ⟨o, _, _, ho, h, _⟩ := tells_bind (Good.rdO _) (fun _ => Good.all _) h
          obtain ⟨rfl, _⟩ := tells_rdO ho
          rw [← hS] at h
          split at h
          · rename_i e' r' xs hid
            cases hb : (Nat.beq e' e && !isPar id) with
            | false => rw [hb] at h; obtain ⟨h3, _⟩ := tells_pure h; cases h3
            | true =>
              rw [hb] at h
              obtain ⟨h3, _⟩ := tells_pure h
              split at h3
              · rename_i y hy
                simp only [Option.some.injEq] at h3
                subst h3
                obtain ⟨he, rfl⟩ := castT_eq hy
                injection he with he
                subst he
                simp only [Bool.and_eq_true, Bool.not_eq_true'] at hb
                obtain ⟨hb, hp⟩ := hb
                obtain rfl := Nat.eq_of_beq_eq_true hb
                obtain ⟨_, h1⟩ := h1
                rw [hid] at h1
                have h1 : v = k.ν id := h1
                obtain ⟨us, h3, h4, h5⟩ := hk.obj id _ hid
                refine ⟨[v], vs', rfl, h2, fun i hi => ?_, e', v, us, rfl, rfl, by rw [h1]; exact h3, h4, h5, by simp [blk, h1]⟩
                simp at hi
                subst hi
                exact ⟨_, _, _, hid, hp⟩
              · cases h3
          · obtain ⟨h3, _⟩ := tells_pure h; cases h3
        | _ => obtain ⟨h3, _⟩ := tells_pure h; cases h3
  | .bool, cs, es, q, R, h, vs, hv => by
    cases cs with
    | nil => obtain ⟨h3, _⟩ := tells_pure h; cases h3
    | cons c cs =>
      obtain ⟨v, vs', rfl, h1, h2⟩ := hv
      cases c with
      | v t' y =>
        obtain ⟨h3, _⟩ := tells_pure h
        split at h3
        · rename_i z hz
          simp only [Option.some.injEq] at h3
          subst h3
          obtain ⟨he, rfl⟩ := castT_eq hz
          subst he
          exact ⟨[v], vs', rfl, h2, fun _ h => by simp at h, rfl, rfl, h1⟩
        · cases h3
      | _ => obtain ⟨h3, _⟩ := tells_pure h; cases h3
  | .int kk, cs, es, q, R, h, vs, hv => by
    cases cs with
    | nil => obtain ⟨h3, _⟩ := tells_pure h; cases h3
    | cons c cs =>
      obtain ⟨v, vs', rfl, h1, h2⟩ := hv
      cases c with
      | v t' y =>
        obtain ⟨h3, _⟩ := tells_pure h
        split at h3
        · rename_i z hz
          simp only [Option.some.injEq] at h3
          subst h3
          obtain ⟨he, rfl⟩ := castT_eq hz
          subst he
          exact ⟨[v], vs', rfl, h2, fun _ h => by simp at h, rfl, rfl, h1⟩
        · cases h3
      | _ => obtain ⟨h3, _⟩ := tells_pure h; cases h3
  | .str, cs, es, q, R, h, vs, hv => by
    cases cs with
    | nil => obtain ⟨h3, _⟩ := tells_pure h; cases h3
    | cons c cs =>
      obtain ⟨v, vs', rfl, h1, h2⟩ := hv
      cases c with
      | v t' y =>
        obtain ⟨h3, _⟩ := tells_pure h
        split at h3
        · rename_i z hz
          simp only [Option.some.injEq] at h3
          subst h3
          obtain ⟨he, rfl⟩ := castT_eq hz
          subst he
          exact ⟨[v], vs', rfl, h2, fun _ h => by simp at h, rfl, rfl, h1⟩
        · cases h3
      | _ => obtain ⟨h3, _⟩ := tells_pure h; cases h3
theorem nodupN2 {l : List Nat} (h : nodupN' l = true) : l.Nodup := by
  induction l with
  | nil => exact List.nodup_nil
  | cons i l ih =>
    simp only [nodupN', Bool.and_eq_true, Bool.not_eq_true'] at h
    refine List.nodup_cons.2 ⟨fun hm => ?_, ih h.2⟩
    have : (l.any fun j => Nat.beq j i) = true := List.any_eq_true.2 ⟨i, hm, Nat.beq_refl _⟩
    rw [this] at h
    cases h.1
section mem
variable {P : Program}
theorem DoesU.after {F : Fx} {k k1 : K} {s : Sem Unit} {v : AV} {o1 o2 : List (Nat × Ob)} (hw : k1.w = k.w) (hh : k1.h = (k.put o1).h) (hle : Le F k k1) (h : DoesU P F k1 s ⟨v, o2⟩) : DoesU P F k s ⟨v, o2 ++ o1⟩ := by
  obtain ⟨k2, h1, h2, h3, h4, h5⟩ := h
  refine ⟨k2, by rw [← hw]; exact h1, ?_, h3, hle.trans h4, h5⟩
  rw [h2]
  funext i
  show (lkH o2 i).or (k1.h i) = (lkH (o2 ++ o1) i).or (k.h i)
  rw [hh, lkH_append]
  show (lkH o2 i).or ((lkH o1 i).or (k.h i)) = _
  cases lkH o2 i <;> rfl
theorem pack_whole {F : Fx} {k : K} (hk : HeapOK F k) {S : St} (hS : k.h = lkH S.H) {fz : Bool} {t : Ty} {cs : List C} {q : t.den × List C × List (Nat × Ob)} {R : List Nat} (h : Tells (pack fz t cs) S q R) {vs : List Value} (hv : relCs F k cs vs) (hl : vs.length = t.sz) :
    ∃ l, Taken k l ∧ Rd k.w (k.okT F l) t q.1 vs ∧ Frozen k q.2.2 ∧ (fz = true → ∀ id ∈ l, id ∈ q.2.2.map (·.1)) := by
  obtain ⟨l, u1, v1', hvs, _, htk, hrd, hfz, hz⟩ := pack_sound hk hS (x := q.1) (rest := q.2.1) (obs := q.2.2) h hv
  have hu1 := hrd.length
  have hv0 : v1' = [] := List.eq_nil_of_length_eq_zero (by
    have := congrArg List.length hvs
    simp only [List.length_append] at this
    omega)
  subst hv0
  rw [List.append_nil] at hvs
  subst hvs
  exact ⟨l, htk, hrd, hfz, hz⟩
theorem storeF_sound {F : Fx} {k k1 : K} (hk : HeapOK F k) (hk1 : HeapOK F k1) (hle : Le F k k1) {S : St} (hS : k.h = lkH S.H) {t : Nat} {td : TD} (htd : TDok P t td) {id e : Nat} {r : Ty} {xs : List r.den} {ns : List Nat} (hid : k1.h id = some (.arr e r xs (.yes ns))) {j : Int} {p : List (Nat × Nat)} {v1 : V1} {U : Upd} {R : List Nat}
    (h : Tells (storeF td id e r xs ns j p v1) S U R) {pv xv : Value} (hp : relC F k1 (.pa id j p) pv) {vs : List Value} (hcells : xv.cells = vs.toArray) (hrel : relCs F k v1.cells vs) (hvl : vs.length = td.sz) (hone : ∀ v ∈ vs, v.oneCell' = true) : DoesU P F k1 (Instr.storeAt t pv xv) U := by
  obtain ⟨_, hp⟩ := hp
  rw [hid] at hp
  obtain ⟨hj0, hj1, g, n, c, t', o, hν, hpt, rfl⟩ := hp
  unfold storeF at h
  obtain ⟨d, _, _, h3, h4, _⟩ := tells_bind (Good.ofOpt _) (fun _ => Good.all _) h
  obtain ⟨hpr, _⟩ := tells_ofOpt h3
  obtain ⟨_, _, _, h5, h6, _⟩ := tells_bind (Good.guard _) (fun _ => Good.all _) h4
  have h5 := (tells_guard h5).1
  simp only [Bool.and_eq_true] at h5
  have hds := Nat.eq_of_beq_eq_true h5.1
  obtain ⟨q, _, _, h7, h8, _⟩ := tells_bind (good_pack _ _ _) (fun _ => Good.all _) h6
  obtain ⟨y, _, _, h9, h10, _⟩ := tells_bind (Good.ofOpt _) (fun _ => Good.all _) h8
  obtain ⟨hset, _⟩ := tells_ofOpt h9
  obtain ⟨rfl, _⟩ := tells_pure h10
  obtain ⟨l, htk, hrd, _⟩ := pack_whole hk hS h7 hrel (by omega)
  exact store_own hk1 htd hid hj0 hj1 hν hpt (.inl rfl) hpr (ids := []) (fun _ h => by simp at h) List.nodup_nil (ownRd_of_flat _ h5.2 (hrd.flat h5.2)) hset hcells hvl hone
theorem storeD_sound {F : Fx} {k : K} (hk : HeapOK F k) {S : St} (hS : k.h = lkH S.H) {t : Nat} {td : TD} (htd : TDok P t td) {id e : Nat} {r : Ty} {xs : List r.den} {ns : List Nat} {hs : Option (Int × List (Nat × Nat) × Nat)} (hid : k.h id = some (.arr e r xs (.yes ns hs))) {j : Int} {p : List (Nat × Nat)} (hhs : hs = none ∨ ∃ i, hs = some (j, p, i)) {v1 : V1} {U : Upd} {R : List Nat}
    (h : Tells (storeD td id e r xs ns j p v1) S U R) {pv xv : Value} (hp : relC F k (.pa id j p) pv) {vs : List Value} (hcells : xv.cells = vs.toArray) (hrel : relCs F k v1.cells vs) (hvl : vs.length = td.sz) (hone : ∀ v ∈ vs, v.oneCell' = true) : DoesU P F k (Instr.storeAt t pv xv) U := by
  obtain ⟨_, hp⟩ := hp
  rw [hid] at hp
  obtain ⟨hj0, hj1, g, n, c, t', o, hν, hpt, rfl⟩ := hp
  unfold storeD at h
  obtain ⟨d, _, _, h3, h4, _⟩ := tells_bind (Good.ofOpt _) (fun _ => Good.all _) h
  obtain ⟨hpr, _⟩ := tells_ofOpt h3
  obtain ⟨_, _, _, h5, h6, _⟩ := tells_bind (Good.guard _) (fun _ => Good.all _) h4
  have hds := Nat.eq_of_beq_eq_true (tells_guard h5).1
  obtain ⟨om, _, _, h7, h8, _⟩ := tells_bind (good_ownM _ _ _) (fun _ => Good.all _) h6
  cases om with
  | some q =>
    obtain ⟨_, _, _, h9, h10, _⟩ := tells_bind (Good.guard _) (fun _ => Good.all _) h8
    have h9 := (tells_guard h9).1
    simp only [Bool.and_eq_true] at h9
    obtain ⟨zs, _, _, h11, h12, _⟩ := tells_bind (Good.ofOpt _) (fun _ => Good.all _) h10
    obtain ⟨hz, _⟩ := tells_ofOpt h11
    obtain ⟨rfl, _⟩ := tells_pure h12
    obtain ⟨u, v, rfl, g1, g2, g3⟩ := ownM_sound hk hS h7 hrel
    have hv0 : v = [] := by
      have := g3.length
      simp only [List.length_append] at hvl
      exact List.eq_nil_of_length_eq_zero (by omega)
    subst hv0
    rw [List.append_nil] at hcells hvl hone
    unfold setRP at hz
    split at hz
    case h_2 => cases hz
    rename_i x' hx'
    simp only [Option.some.injEq] at hz
    subst hz
    have hnd := nodupN2 h9.2
    obtain ⟨hn1, hn2⟩ := List.nodup_cons.1 hnd
    exact store_own hk htd hid hj0 hj1 hν hpt hhs hpr (ids := q.2.2.2) (fun i hi => ⟨by rintro rfl; exact hn1 hi, (g2 i hi).imp fun e he => he.imp fun r hr => hr.imp fun xs hx => hx.1⟩) hn2 g3 hx' hcells hvl hone
  | none =>
    obtain ⟨q, _, _, h9, h10, _⟩ := tells_bind (good_pack _ _ _) (fun _ => Good.all _) h8
    obtain ⟨zs, _, _, h11, h12, _⟩ := tells_bind (Good.ofOpt _) (fun _ => Good.all _) h10
    obtain ⟨hz, _⟩ := tells_ofOpt h11
    obtain ⟨_, _, _, h13, h14, _⟩ := tells_bind (Good.guard _) (fun _ => Good.all _) h12
    have h13 := (tells_guard h13).1
    simp only [Bool.and_eq_true, Bool.not_eq_true'] at h13
    obtain ⟨rfl, _⟩ := tells_pure h14
    unfold setRP at hz
    split at hz
    case h_2 => cases hz
    rename_i x' hx'
    simp only [Option.some.injEq] at hz
    subst hz
    obtain ⟨l, htk, hrd, hfz, hzz⟩ := pack_whole hk hS h9 hrel (by omega)
    obtain ⟨hk1, hle1, hok1⟩ := freeze hk hfz
    have hrd1 : Rd k.w ((k.put q.2.2).ok F) d.1 q.1 vs := hrd.mono (fun b hb => hok1 b (okT_mono (hzz rfl) hb)) (fun _ _ _ => rfl)
    have hid1 : (k.put q.2.2).h id = some (.arr e r xs (.yes ns hs)) := by
      have hn : lkH q.2.2 id = none := by
        cases hl : lkH q.2.2 id with
        | none => rfl
        | some o2 =>
          have := List.all_eq_true.1 h13.2 _ (lkH_some hl)
          simp [Nat.beq_refl] at this
      simp [K.put, hn, hid]
    exact DoesU.after (k := k) (k1 := k.put q.2.2) (o1 := q.2.2) rfl rfl hle1 (store_let hk1 htd hid1 h13.1 hj0 hj1 hν hpt hhs hpr hrd1 hx' hcells hvl hone)
theorem storeAt_sound {F : Fx} {k : K} (hk : HeapOK F k) {S : St} (hS : k.h = lkH S.H) {t : Nat} {td : TD} (htd : TDok P t td) {c : C} {v1 : V1} {U : Upd} {R : List Nat} (h : Tells (storeAt td c v1) S U R) {pv xv : Value} (hp : relC F k c pv) (hx : relV F k v1 xv) :
    DoesU P F k (Instr.storeAt t pv xv) U := by
  unfold storeAt at h
  obtain ⟨_, R1, R2, h1, h2, _⟩ := tells_bind (Good.guard _) (fun _ => Good.all _) h
  have hg := (tells_guard h1).1
  simp only [Bool.and_eq_true] at hg
  have hsz := Nat.eq_of_beq_eq_true hg.1
  obtain ⟨vs, hcells, hrel⟩ := relV_cells hx hg.2
  have hvl : vs.length = td.sz := hrel.length.trans hsz
  have hone := hrel.oneCell hg.2
  cases c with
  | pb id off =>
    obtain ⟨⟨cs, hcs⟩, rfl⟩ := hp
    obtain ⟨o, R1, R2, h1, h2, _⟩ := tells_bind (Good.rdO _) (fun o => by
      cases o with
      | none => exact Good.fail
      | some o => cases o <;> first | exact Good.fail | exact Good.bind (Good.guard _) (fun _ => Good.pure _)) h2
    obtain ⟨rfl, _⟩ := tells_rdO h1
    rw [← hS, hcs] at h2
    obtain ⟨_, R3, R4, h3, h4, _⟩ := tells_bind (Good.guard _) (fun _ => Good.pure _) h2
    have hfit := Nat.le_of_ble_eq_true (tells_guard h3).1
    obtain ⟨rfl, _⟩ := tells_pure h4
    obtain ⟨us, T, hheap, hru⟩ := hk.obj id _ hcs
    have hlen := hru.length
    obtain ⟨w', hrun, hw1, hw2, hw3, hw4, hw5, hw6⟩ := store_cells P hheap (off := off) (vs := vs) (by omega) hone
    have hown : k.own id (k.μ id) := by simp [K.own, hcs]
    have := set_step hk (o' := .box (splice cs off v1.cells)) hcs (w' := w') hown (.inl ⟨_, _, rfl, rfl⟩) hw2 hw3 hw4 hw5 hw6 (fun hle => ⟨_, T, hw1, splice_rel (hle.cs hru) (hle.cs hrel) off⟩)
    refine ⟨⟨w', (k.put [(id, .box (splice cs off v1.cells))]).h, k.μ, k.ν, k.nb⟩, ?_, rfl, this.1, this.2, trivial⟩
    simp only [Instr.storeAt, Instr.sureAddr, Sem.run_bind, Sem.run_pure, Result.andThen_ok]
    exact run_storeVar htd hcells hvl hrun
  | pa id j p =>
    obtain ⟨o, R1, R2, h1, h2, _⟩ := tells_bind (Good.rdO _) (fun o => Good.all _) h2
    obtain ⟨rfl, _⟩ := tells_rdO h1
    obtain ⟨hpex, hp⟩ := hp
    rw [← hS] at h2
    cases ho : k.h id with
    | none => rw [ho] at h2; exact (tells_fail h2).elim
    | some o =>
      rw [ho] at h2 hp
      cases o with
      | arr e r xs dd =>
        obtain hdd | rfl : DoesU P F k (Instr.storeAt t pv xv) U ∨ dd = .no := by
          cases dd with
          | no => exact .inr rfl
          | yes ns hs =>
            refine .inl ?_
            have hpa : relC F k (.pa id j p) pv := ⟨hpex, by rw [ho]; exact hp⟩
            cases hs with
            | none =>
              have h2 : Tells (iteB (flatAt r p) (storeF td id e r xs ns j p v1) (storeD td id e r xs ns j p v1)) S U _ := h2
              cases hfl : flatAt r p with
              | true =>
                rw [hfl] at h2
                exact storeF_sound hk hk (Le.refl F k) hS htd ho (show Tells (storeF td id e r xs ns j p v1) S U _ from h2) hpa hcells hrel hvl hone
              | false =>
                rw [hfl] at h2
                exact storeD_sound hk hS htd ho (.inl rfl) (show Tells (storeD td id e r xs ns j p v1) S U _ from h2) hpa hcells hrel hvl hone
            | some hh =>
              have h2 : Tells (iteB (flatAt r p) (M.bind (closeM id) fun q => match q.1 with
                  | some (.arr e r xs (.yes ns)) => M.bind (storeF td id e r xs ns j p v1) fun U => M.pure (⟨U.val, U.obs ++ q.2⟩ : Upd)
                  | _ => fail) (M.bind (guardB (decide (hh.1 = j) && decide (hh.2.1 = p))) fun _ => storeD td id e r xs ns j p v1)) S U _ := h2
              cases hfl : flatAt r p with
              | true =>
                rw [hfl] at h2
                have h2 : Tells (M.bind (closeM id) fun q => match q.1 with
                  | some (.arr e r xs (.yes ns)) => M.bind (storeF td id e r xs ns j p v1) fun U => M.pure (⟨U.val, U.obs ++ q.2⟩ : Upd)
                  | _ => fail) S U _ := h2
                obtain ⟨q, _, _, hq, h2, _⟩ := tells_bind (good_closeM _) (fun _ => Good.all _) h2
                obtain ⟨k1, hw1, hh1, hk1, hle1, hid1, hno, hfr⟩ := closeM_sound hk hS hq
                obtain ⟨q1, obs⟩ := q
                dsimp only at hid1 h2 hh1
                split at h2
                · rename_i e2 r2 xs2 ns2
                  obtain ⟨U2, _, _, h3, h2, _⟩ := tells_bind (Good.all _) (fun _ => Good.all _) h2
                  obtain ⟨rfl, _⟩ := tells_pure h2
                  exact DoesU.after hw1 hh1 hle1 (storeF_sound hk hk1 hle1 hS htd hid1 h3 (hle1.c hpa) hcells hrel hvl hone)
                · exact (tells_fail h2).elim
              | false =>
                rw [hfl] at h2
                obtain ⟨_, _, _, hg2, h9, _⟩ := tells_bind (Good.guard _) (fun _ => Good.all _) (show Tells (M.bind (guardB (decide (hh.1 = j) && decide (hh.2.1 = p))) fun _ => storeD td id e r xs ns j p v1) S U _ from h2)
                have hg2 := (tells_guard hg2).1
                simp only [Bool.and_eq_true, decide_eq_true_eq] at hg2
                obtain ⟨j', p', i'⟩ := hh
                obtain ⟨h21, h22⟩ := hg2
                dsimp only at h21 h22
                subst h21 h22
                exact storeD_sound hk hS htd ho (.inr ⟨i', rfl⟩) h9 hpa hcells hrel hvl hone
        · exact hdd
        obtain ⟨hj0, hj1, g, n, c, t', o, hν, hpt, rfl⟩ := hp
        obtain ⟨d, R3, R4, h3, h4, _⟩ := tells_bind (Good.ofOpt _) (fun _ => Good.bind (Good.guard _) fun _ => Good.bind (good_pack _ _ _) fun _ => Good.bind (Good.ofOpt _) fun _ => Good.bind (Good.guard _) fun _ => Good.pure _) h2
        obtain ⟨hpr, _⟩ := tells_ofOpt h3
        obtain ⟨_, R3, R4, h5, h6, _⟩ := tells_bind (Good.guard _) (fun _ => Good.bind (good_pack _ _ _) fun _ => Good.bind (Good.ofOpt _) fun _ => Good.bind (Good.guard _) fun _ => Good.pure _) h4
        have hds := Nat.eq_of_beq_eq_true (tells_guard h5).1
        obtain ⟨q, R3, R4, h7, h8, _⟩ := tells_bind (good_pack _ _ _) (fun _ => Good.bind (Good.ofOpt _) fun _ => Good.bind (Good.guard _) fun _ => Good.pure _) h6
        obtain ⟨y, R3, R4, h9, h10, _⟩ := tells_bind (Good.ofOpt _) (fun _ => Good.bind (Good.guard _) fun _ => Good.pure _) h8
        obtain ⟨hset, _⟩ := tells_ofOpt h9
        obtain ⟨_, R3, R4, h11, h12, _⟩ := tells_bind (Good.guard _) (fun _ => Good.pure _) h10
        have hnot := (tells_guard h11).1
        obtain ⟨rfl, _⟩ := tells_pure h12
        obtain ⟨l, u1, v1', hvs, _, htk, hrd, hfz, hz⟩ := pack_sound hk hS (x := q.1) (rest := q.2.1) (obs := q.2.2) h7 hrel
        have hu1 := hrd.length
        have hv0 : v1' = [] := List.eq_nil_of_length_eq_zero (by
          have := congrArg List.length hvs
          simp only [List.length_append] at this
          omega)
        subst hv0
        rw [List.append_nil] at hvs
        subst hvs
        obtain ⟨hk1, hle1, hok1⟩ := freeze hk hfz
        have hrd1 : Rd k.w ((k.put q.2.2).ok F) d.1 q.1 vs := hrd.mono (fun b hb => hok1 b (okT_mono (hz rfl) hb)) (fun _ _ _ => rfl)
        have ho1 : (k.put q.2.2).h id = some (.arr e r xs) := by
          have hn : lkH q.2.2 id = none := by
            cases hl : lkH q.2.2 id with
            | none => rfl
            | some o2 =>
              have := List.all_eq_true.1 hnot _ (lkH_some hl)
              simp [Nat.beq_refl] at this
          simp [K.put, hn, ho]
        have hjl : j.toNat < xs.length := by omega
        obtain ⟨cur, u, row, v, rest, hheap, rfl, hu, hrow, hown, hnx, hnc, hcm, hcl, hrl, hB, hxl, hreb⟩ := arr_row hk1 ho1 (g := g) (n := n) (c := c) hν hjl
        obtain ⟨o', hpt', u2, c2, v2, rfl, hu2, hc2, hs2⟩ := path_rd p hpr hrow
        rw [hpt] at hpt'
        cases hpt'
        obtain ⟨y', hset', hry⟩ := hs2 ((k.put q.2.2).ok F) q.1 vs (fun b hb => hb) hrd1
        rw [hset] at hset'
        cases hset'
        have hc2l := hc2.length
        obtain ⟨w', hrun, hw1, hw2, hw3, hw4, hw5, hw6⟩ := store_cells P hheap (off := j.toNat * r.sz + o) (vs := vs) (by simp only [List.length_append]; omega) hone
        have hnew : (u ++ (u2 ++ (c2 ++ v2) ++ v) ++ rest).take (j.toNat * r.sz + o) ++ (vs ++ (u ++ (u2 ++ (c2 ++ v2) ++ v) ++ rest).drop (j.toNat * r.sz + o + vs.length)) = (u ++ (u2 ++ (vs ++ v2) ++ v)) ++ rest := by
          have e1 : u ++ (u2 ++ (c2 ++ v2) ++ v) ++ rest = (u ++ u2) ++ (c2 ++ (v2 ++ (v ++ rest))) := by simp
          have hl1 : (u ++ u2).length = j.toNat * r.sz + o := by simp [hu, hu2]
          rw [e1, ← hl1, List.take_left, ← List.drop_drop, List.drop_left, show vs.length = c2.length by omega, List.drop_left]
          simp
        rw [hnew] at hw1
        have hk2 := set_step hk1 (o' := .arr e r (xs.set j.toNat y)) ho1 (w' := w') hown (.inr ⟨_, _, _, _, .no, rfl, rfl, by simp⟩) hw2 hw3 hw4 hw5 hw6 (fun hle => by
          have hrows : RdRows k.w ((k.put q.2.2).ok F) r (xs.set j.toNat y) (u ++ (u2 ++ (vs ++ v2) ++ v)) := hreb _ y _ (fun b hb => hb) hry
          refine ⟨u ++ (u2 ++ (vs ++ v2) ++ v), ?_, hle.rdRows hrows, by simpa using hxl⟩
          refine ⟨hrows.length, .inr ⟨g, c, _, ?_, ?_, hB, hw1, by simpa [← hnx] using hnc, hcm, ?_, ?_⟩⟩
          · show k.ν id = _
            rw [hν, hnx]; simp
          · omega
          · simp only [List.size_toArray]
            rw [← hcl]
            simp only [List.length_append]; omega
          · have hl := hrows.length
            simp only [List.toList_toArray]
            rw [← hl, List.take_left])
        refine ⟨_, ?_, ?_, hk2.1, hle1.trans hk2.2, trivial⟩
        · simp only [Instr.storeAt, Instr.sureAddr, Sem.run_bind, Sem.run_pure, Result.andThen_ok]
          exact run_storeVar htd hcells hvl hrun
        · exact put_put _ _ _
      | box cs => exact (tells_fail h2).elim
      | imm r xs => exact (tells_fail h2).elim
      | gone => exact (tells_fail h2).elim
  | _ => exact (tells_fail h2).elim
end mem
end Go.MC

set_option linter.unusedVariables false
set_option linter.unusedSimpArgs false
namespace Go.MC
open Go.RowKit
section mem
variable {P : Program}
theorem fldTy_fld : ∀ (j : Nat) {t : Ty} {x : t.den} {n : Nat} {d : Dv}, fldT t x n j = some d → fldTy t n j = some d.1
  | 0, t, x, n, d, h => by
    cases hn : Nat.ble n 1
    · cases t with
      | pair a b =>
        simp only [fldT, hn, cond_false] at h
        have h := Option.some.inj h
        subst h
        simp [fldTy, hn]
      | _ => simp [fldT, hn] at h
    · rw [fldT_t hn] at h
      have h := Option.some.inj h
      subst h
      exact fldTy_t hn
  | j + 1, t, x, n, d, h => by
    cases t with
    | pair a b =>
      simp only [fldT] at h
      simpa only [fldTy] using fldTy_fld j h
    | _ => simp [fldT] at h
theorem pathTy_proj : ∀ (p : List (Nat × Nat)) {t : Ty} {x : t.den} {d : Dv}, projT t x p = some d → ∃ o, pathTy t p = some (d.1, o)
  | [], t, x, d, h => by
    simp only [projT, Option.some.injEq] at h
    subst h
    exact ⟨0, rfl⟩
  | (n, j) :: p, t, x, d, h => by
    simp only [projT] at h
    split at h
    · rename_i e he
      obtain ⟨o, h1⟩ := pathTy_proj p h
      exact ⟨_, by simp only [pathTy, fldTy_fld j he, h1]; rfl⟩
    · cases h
theorem fieldAddrAt_sound {F : Fx} {k : K} (hk : HeapOK F k) {S : St} (hS : k.h = lkH S.H) {t : Nat} {td : TD} (htd : TDok P t td) {c c' : C} {j : Nat} {R : List Nat} (h : Tells (fieldAddrAt td c j) S c' R) {pv : Value} (hp : relC F k c pv) :
    ∃ v, (Instr.fieldAt t pv j).run P k.w = .ok v k.w ∧ relC F k c' v := by
  unfold fieldAddrAt at h
  obtain ⟨f, R1, R2, h1, h2, _⟩ := tells_bind (Good.ofOpt _) (fun _ => by
    repeat' first
      | with_reducible exact Good.pure _
      | with_reducible exact Good.fail
      | with_reducible exact Good.rdO _
      | with_reducible exact Good.guard _
      | with_reducible exact Good.ofOpt _
      | (with_reducible refine Good.bind ?_ fun _ => ?_)
      | split
      | (dsimp only; split)) h
  obtain ⟨hf, _⟩ := tells_ofOpt h1
  have hagg : td.agg = true := by
    cases ha : td.agg
    · rw [(htd.noagg ha).2.1] at hf; simp at hf
    · rfl
  obtain ⟨fs, hu, hfl⟩ := htd.agg hagg
  have hfs : ∃ fd, fs[j]? = some fd ∧ fd.type = f.1 ∧ fd.offset = f.2 := by
    rw [← hfl] at hf
    simp only [List.getElem?_map, Option.map_eq_some_iff] at hf
    obtain ⟨fd, h3, h4⟩ := hf
    exact ⟨fd, by simpa using h3, by rw [← h4], by rw [← h4]⟩
  obtain ⟨fd, hfd, hty, hoff⟩ := hfs
  obtain ⟨ti, hti, hpos⟩ := htd.fld f (List.mem_of_getElem? hf)
  have hrun : ∀ ad : Addr, (Instr.fieldAt t (.pointer (some ad)) j).run P k.w = .ok (.pointer (some (ad.add f.2))) k.w := by
    intro ad
    have hsz : (sizeOf fd.type).run P k.w = .ok ti.size k.w := by simp [sizeOf, typeInfo, hty, hti]
    have hne : ti.size ≠ 0 := by omega
    simp [Instr.fieldAt, run_underlying hu, hfd, Instr.sureAddr, fieldPlace, hsz, hne, hoff]
  cases c with
  | pb id off =>
    obtain ⟨rfl, _⟩ := tells_pure h2
    obtain ⟨hb, rfl⟩ := hp
    exact ⟨_, hrun _, hb, by rw [add_lit2]⟩
  | pd ty x =>
    obtain ⟨ad, vs, rfl, hok, hrd, hc⟩ := hp
    obtain ⟨d, R3, R4, h3, h4, _⟩ := tells_bind (Good.ofOpt _) (fun _ => Good.bind (Good.guard _) fun _ => Good.pure _) h2
    obtain ⟨hd, _⟩ := tells_ofOpt h3
    obtain ⟨_, R3, R4, h5, h6, _⟩ := tells_bind (Good.guard _) (fun _ => Good.pure _) h4
    have ho := Nat.eq_of_beq_eq_true (tells_guard h5).1
    obtain ⟨rfl, _⟩ := tells_pure h6
    obtain ⟨_, u, c, v, rfl, hul, hcr, _⟩ := fld_rd j hd hrd
    refine ⟨_, hrun _, ad.add f.2, c, rfl, by rw [add_block]; exact hok, hcr, ?_⟩
    rw [← ho, ← hul]
    exact (CellsAt.append.1 (CellsAt.append.1 hc).2).1
  | pa id i p =>
    obtain ⟨hpt, hp⟩ := hp
    obtain ⟨o, R1, R2, h3, h4, _⟩ := tells_bind (Good.rdO _) (fun o => Good.all _) h2
    obtain ⟨rfl, _⟩ := tells_rdO h3
    rw [← hS] at h4
    cases ho : k.h id with
    | none => rw [ho] at h4; exact (tells_fail h4).elim
    | some o =>
      rw [ho] at h4 hp
      cases o with
      | arr e r xs =>
        obtain ⟨hj0, hj1, g, n, c, t', o, hν, hpt', rfl⟩ := hp
        obtain ⟨d, R3, R4, h5, h6, _⟩ := tells_bind (Good.ofOpt _) (fun _ => Good.bind (Good.ofOpt _) fun _ => Good.bind (Good.guard _) fun _ => Good.pure _) h4
        obtain ⟨hd, _⟩ := tells_ofOpt h5
        obtain ⟨d2, R3, R4, h7, h8, _⟩ := tells_bind (Good.ofOpt _) (fun _ => Good.bind (Good.guard _) fun _ => Good.pure _) h6
        obtain ⟨hd2, _⟩ := tells_ofOpt h7
        obtain ⟨_, R3, R4, h9, h10, _⟩ := tells_bind (Good.guard _) (fun _ => Good.pure _) h8
        have hoo := Nat.eq_of_beq_eq_true (tells_guard h9).1
        obtain ⟨rfl, _⟩ := tells_pure h10
        obtain ⟨o', hp3⟩ := pathTy_proj p hd
        rw [hpt'] at hp3
        cases hp3
        have hty2 := fldTy_fld j hd2
        refine ⟨_, hrun _, ⟨_, rfl⟩, ?_⟩
        rw [ho]
        refine ⟨hj0, hj1, g, n, c, d2.1, o + offT d.1 td.flds.length j, hν, pathTy_append p hpt' hty2, ?_⟩
        rw [add_lit2, hoo, Nat.add_assoc]
      | box cs => exact (tells_fail h4).elim
      | imm r xs => exact (tells_fail h4).elim
      | gone => exact (tells_fail h4).elim
  | _ => exact (tells_fail h2).elim
theorem run_indexAt_sl {t e : Nat} {te : TD} (hu : P.underlying t = some (.slice e)) (hte : TDok P e te) {w : World} {ad : Addr} {n c : Nat} {kk : IntKind} {i : Int} (h0 : 0 ≤ i) (h1 : i < (n : Int)) :
    (Instr.indexAt t (.slice (some ad) n c) (.int kk i)).run P w = .ok (.pointer (some (ad.add (i.toNat * te.sz)))) w := by
  simp [Instr.indexAt, asIntOf, run_underlying hu, h0, h1, run_sizeOf' hte]
theorem inRange_sound {i : Int} {n : Nat} {S : St} {u : Unit} {R : List Nat} (h : Tells (inRange i n) S u R) : 0 ≤ i ∧ i < (n : Int) := by
  unfold inRange at h
  obtain ⟨_, R1, R2, h1, h2, _⟩ := tells_bind (Good.guard _) (fun _ => Good.guard _) h
  exact ⟨of_decide_eq_true (tells_guard h1).1, of_decide_eq_true (tells_guard h2).1⟩
theorem indexAddrAt_sound {F : Fx} {k : K} (hk : HeapOK F k) {S : St} (hS : k.h = lkH S.H) {t e : Nat} {te : TD} (hu : P.underlying t = some (.slice e)) (hte : TDok P e te) {c c' : C} {i : Int} {R : List Nat} (h : Tells (indexAddrAt te c i) S c' R) {pv : Value} (hp : relC F k c pv) (kk : IntKind) :
    ∃ v, (Instr.indexAt t pv (.int kk i)).run P k.w = .ok v k.w ∧ relC F k c' v := by
  have imm : ∀ {r : Ty} {xs : List r.den} {pv : Value} {R : List Nat}, Rd k.w (k.ok F) (.slice r) xs [pv] →
      Tells (M.bind (inRange i xs.length) fun _ => M.bind (guardB (Nat.beq r.sz te.sz)) fun _ => M.pure (.pd r (xs.getD i.toNat r.dflt))) S c' R → ∃ v, (Instr.indexAt t pv (.int kk i)).run P k.w = .ok v k.w ∧ relC F k c' v := by
    intro r xs pv R hp h
    obtain ⟨_, R1, R2, h1, h2, _⟩ := tells_bind (good_inRange _ _) (fun _ => Good.bind (Good.guard _) fun _ => Good.pure _) h
    obtain ⟨h3, h4⟩ := inRange_sound h1
    obtain ⟨_, R1, R2, h5, h6, _⟩ := tells_bind (Good.guard _) (fun _ => Good.pure _) h2
    have hs := Nat.eq_of_beq_eq_true (tells_guard h5).1
    obtain ⟨rfl, _⟩ := tells_pure h6
    obtain ⟨a, cap, hv, hc, hl⟩ := hp.slice_form
    simp only [List.cons.injEq, and_true] at hv
    subst hv
    obtain ⟨_, ad, cs, rfl, hok, hr, hcell⟩ := hp.at (j := i.toNat) (by omega)
    refine ⟨_, run_indexAt_sl hu hte h3 h4, ad.add (i.toNat * te.sz), cs, rfl, by rw [add_block]; exact hok, hr, ?_⟩
    rw [← hs]
    exact hcell
  cases c with
  | v ty x =>
    cases ty with
    | slice r => exact imm hp h
    | _ => exact (tells_fail h).elim
  | arr id =>
    unfold indexAddrAt at h
    obtain ⟨o, R1, R2, h1, h2, _⟩ := tells_bind (Good.rdO _) (fun o => Good.all _) h
    obtain ⟨rfl, _⟩ := tells_rdO h1
    obtain ⟨_, hp⟩ := hp
    rw [← hS] at h2
    cases ho : k.h id with
    | none => rw [ho] at h2; exact (tells_fail h2).elim
    | some o =>
      rw [ho] at h2 hp
      cases o with
      | arr e' r xs =>
        obtain ⟨_, R1, R2, h1, h2, _⟩ := tells_bind (good_inRange _ _) (fun _ => Good.bind (Good.guard _) fun _ => Good.pure _) h2
        obtain ⟨h3, h4⟩ := inRange_sound h1
        obtain ⟨_, R1, R2, h5, h6, _⟩ := tells_bind (Good.guard _) (fun _ => Good.pure _) h2
        have hs := Nat.eq_of_beq_eq_true (tells_guard h5).1
        obtain ⟨rfl, _⟩ := tells_pure h6
        obtain rfl : pv = k.ν id := hp
        obtain ⟨vs, hown, _⟩ := own_row hk ho
        rcases hown.2 with ⟨_, _, hn⟩ | ⟨g, cap, cur, hv, _⟩
        · omega
        · rw [hv]
          refine ⟨_, run_indexAt_sl hu hte h3 h4, ⟨_, rfl⟩, ?_⟩
          rw [ho]
          exact ⟨h3, h4, g, _, cap, r, 0, hv, rfl, by rw [add_lit, hs, Nat.add_zero]⟩
      | imm r xs =>
        obtain rfl : pv = k.ν id := hp
        exact imm (hk.obj id _ ho) h2
      | box cs => exact (tells_fail h2).elim
      | gone => exact (tells_fail h2).elim
  | _ => exact (tells_fail h).elim
theorem newVar_does {F : Fx} {k : K} (hk : HeapOK F k) {id : Nat} (hid : k.h id = none) {T : TypeId} {v : Value} {cs : List C} {vs : List Value} (hv : v.cells = vs.toArray) (hr : relCs F k cs vs) :
    Does P F k (do pure (.pointer (some (← newVar T v)))) ⟨.w (.one (.pb id 0)), [(id, .box cs)]⟩ := by
  obtain ⟨k', h1, h2, h3, h4, h5⟩ := new_box hk hid (T := T) hr
  refine ⟨_, k', ?_, h2, h3, h4, h5⟩
  rw [h1]
  simp [newVar, newRow, hv]
theorem alloc_does {F : Fx} {k : K} (hk : HeapOK F k) {id : Nat} (hid : k.h id = none) {t : Nat} {td : TD} (htd : TDok P t td) :
    Does P F k (Instr.alloc t true (.tuple #[])) ⟨.w (.one (.pb id 0)), [(id, .box td.zero)]⟩ := by
  obtain ⟨ti, z, hi, _, _, hz, _, hrel, _⟩ := htd.info
  obtain ⟨v, k', h1, h2⟩ := newVar_does (P := P) (T := t) hk hid (v := z) (cs := td.zero) (vs := z.cells.toList) (by simp) (hrel F k)
  refine ⟨v, k', ?_, h2⟩
  rw [← h1]
  simp [Instr.alloc, zeroValue, typeInfo, hi, hz]
end mem
end Go.MC

set_option linter.unusedVariables false
set_option linter.unusedSimpArgs false
namespace Go.MC
open Go.RowKit
theorem lim_max : lim ≤ maxLen := by decide
section mem
variable {P : Program}
theorem rowsOf_sound {F : Fx} {k : K} (hk : HeapOK F k) {S : St} (hS : k.h = lkH S.H) {c : C} {o : Option (Sigma (fun r : Ty => List r.den))} {R : List Nat} (h : Tells (rowsOf c) S o R) {v : Value} (hv : relC F k c v) :
    match o with
    | none => v = .slice none 0 0
    | some p => ∃ vs a cap, RdRows k.w (k.ok F) p.1 p.2 vs ∧ v = .slice a p.2.length cap ∧ (p.2 ≠ [] → ∃ ad, a = some ad ∧ CellsAt k.w ad vs) ∧ p.2.length ≤ cap ∧ p.2.length ≤ lim := by
  have imm : ∀ {r : Ty} {xs : List r.den} {v : Value}, Rd k.w (k.ok F) (.slice r) xs [v] → ∃ vs a cap, RdRows k.w (k.ok F) r xs vs ∧ v = .slice a xs.length cap ∧ (xs ≠ [] → ∃ ad, a = some ad ∧ CellsAt k.w ad vs) ∧ xs.length ≤ cap ∧ xs.length ≤ lim := by
    intro r xs v hv
    obtain ⟨a, cap, hv', hc, hl⟩ := hv.slice_form
    simp only [List.cons.injEq, and_true] at hv'
    subst hv'
    obtain ⟨vs, h1, _, h2⟩ := hv.rows
    exact ⟨vs, a, cap, h1, rfl, fun hne => let ⟨ad, h3, _, h4⟩ := h2 hne; ⟨ad, h3, h4⟩, hc, hl⟩
  cases c with
  | v t x =>
    cases t with
    | slice r => obtain ⟨rfl, _⟩ := tells_pure h; exact imm hv
    | _ => exact (tells_fail h).elim
  | emp => obtain ⟨rfl, _⟩ := tells_pure h; exact hv
  | arr id =>
    unfold rowsOf at h
    obtain ⟨o', R1, R2, h1, h2, _⟩ := tells_bind (Good.rdO _) (fun o => Good.all _) h
    obtain ⟨rfl, _⟩ := tells_rdO h1
    obtain ⟨_, hv⟩ := hv
    rw [← hS] at h2
    cases ho : k.h id with
    | none => rw [ho] at h2; exact (tells_fail h2).elim
    | some o =>
      rw [ho] at h2 hv
      cases o with
      | arr e r xs dd =>
        obtain rfl : dd = .no := by
          cases dd with
          | no => rfl
          | yes ns hs => exact (tells_fail h2).elim
        obtain ⟨rfl, _⟩ := tells_pure h2
        obtain rfl : v = k.ν id := hv
        obtain ⟨vs, hown, hr, hl⟩ := hk.obj id _ ho
        rcases hown.2 with ⟨a, h3, h4⟩ | ⟨g, cap, cur, h3, hcp, _, _, hnc, _⟩
        · exact ⟨vs, a, 0, hr, by rw [h3]; simp [h4], fun hne => absurd (List.eq_nil_of_length_eq_zero h4) hne, by simp [h4], hl⟩
        · exact ⟨vs, some ⟨g, 0, none⟩, cap, hr, h3, fun _ => ⟨_, rfl, hown.cells (g := g) (by rw [h3]; exact ownB_pos hcp)⟩, hnc, hl⟩
      | imm r xs =>
        obtain ⟨rfl, _⟩ := tells_pure h2
        obtain rfl : v = k.ν id := hv
        exact imm (hk.obj id _ ho)
      | box cs => exact (tells_fail h2).elim
      | gone => exact (tells_fail h2).elim
  | _ => exact (tells_fail h).elim
theorem run_append_none' (base : Nat) (t ty e : TypeId) (i : TypeInfo) (size : Nat) {w : World} (ht : P.underlying t = some (.slice e)) (hi : P.info? e = some i)
    (v : Value) (n c : Nat) (xs : List Value) (hown : w.ownsRow base e size v n xs) : (Builtin.append_ #[t, t] ty #[v, .slice none 0 c]).run P w = .ok v w := by
  rcases hown.2 with ⟨rfl, rfl⟩ | ⟨g, cap, cur, rfl, _, _, hnc, _⟩
  · simp [Builtin.append_, run_underlying ht, sizeOf, typeInfo, hi, Builtin.lenOf, Builtin.firstCells]
  · simp [Builtin.append_, run_underlying ht, sizeOf, typeInfo, hi, Builtin.lenOf, Builtin.firstCells, hnc, storeCells]
theorem TDok.tysz {t : Nat} {td : TD} (h : TDok P t td) (hd : td.dat = true) (w : World) : td.ty.sz = td.sz := by
  obtain ⟨ti, z, _, _, _, _, hz, _, hr⟩ := h.info
  have := (hr hd w (fun _ => True)).length
  simpa [hz] using this.symm
theorem append_mt_run {k : K} {t e ty : Nat} {te : TD} (ht : P.underlying t = some (.slice e)) (hte : TDok P e te) {b : Addr} {m cap : Nat} {ad : Addr} {vs : List Value} (hm : 0 < m) (hl : vs.length = m * te.sz) (hc : CellsAt k.w ad vs) (hb : m * te.bytes ≤ lim) (hnm : m ≤ lim) :
    (Builtin.append_ #[t, t] ty #[.slice (some b) 0 0, .slice (some ad) m cap]).run P k.w = (Builtin.append_ #[t, t] ty #[.slice none 0 0, .slice (some ad) m cap]).run P k.w := by
  obtain ⟨ti, z, hi, hs1, hs2, hz, hzc, _⟩ := hte.info
  have hlim : lim = 140737488355328 := rfl
  have h1 := run_append_nil (P := P) k.w t ty e ti z ht hi hz ad m cap vs (by rw [hs1]; exact hl) hc hm (by omega) (by rw [hs2]; omega)
  have h2 := run_append_grow (P := P) k.w t ty e ti z ht hi hz b 0 0 [] (by simp) (fun j v h => by simp at h) ad m cap vs (by rw [hs1]; exact hl) hc (by omega) (by omega) (by rw [Nat.zero_add, nextslicecap_zero hm, hs2]; omega)
  rw [h1, h2]
  simp
theorem append_run {F : Fx} {k : K} (hk : HeapOK F k) {t e ty : Nat} {te : TD} (ht : P.underlying t = some (.slice e)) (hte : TDok P e te) {size : Nat} (hsz : size = te.sz) {v : Value} {n : Nat} {us : List Value} (hown : OwnsR k.w 0 e size v n us)
    {m cap : Nat} {a : Option Addr} {vs : List Value} (hl : vs.length = m * size) (hat : m ≠ 0 → ∃ ad, a = some ad ∧ CellsAt k.w ad vs) (h1 : ∀ u ∈ vs, u.oneCell' = true) (hb : (n + m) * te.bytes ≤ lim) (hnm : n + m ≤ lim) :
    ∃ v' w', (Builtin.append_ #[t, t] ty #[v, .slice a m cap]).run P k.w = .ok v' w' ∧ OwnsR w' 0 e size v' (n + m) (us ++ vs) ∧ k.w.grownBy w' (ownB v) ∧ (∀ b, ownB v' = some b → ownB v = some b ∨ b = k.w.heap.size) := by
  have hlm := Nat.le_trans hnm lim_max
  have old : ∀ {v : Value}, k.w.ownsRow 0 e size v n us → ∃ v' w', (Builtin.append_ #[t, t] ty #[v, .slice a m cap]).run P k.w = .ok v' w' ∧ w'.ownsRow 0 e size v' (n + m) (us ++ vs) ∧ k.w.grownBy w' v.ownBlock ∧ (v'.ownBlock = v.ownBlock ∨ v'.ownBlock = some k.w.heap.size) := by
    intro v hown
    obtain ⟨ti, z, hi, hs1, hs2, hz, hzc, _⟩ := hte.info
    by_cases hm : m = 0
    · subst hm
      have hv0 : vs = [] := List.eq_nil_of_length_eq_zero (by simpa using hl)
      subst hv0
      cases a with
      | none => exact ⟨v, k.w, run_append_none' 0 t ty e ti size ht hi v n cap us hown, by simpa using hown, ⟨rfl, rfl, rfl, Nat.le_refl _, fun _ _ _ => rfl⟩, .inl rfl⟩
      | some ad =>
        obtain ⟨v', w', hr, ho, hg, _, hat'⟩ := run_append_own_at (P := P) k.w 0 t ty e ti z size te.bytes ht hi hz (hs1.trans hsz.symm) hs2 (hzc.trans hsz.symm) (hsz ▸ hte.pos) v n us hown ad 0 cap [] (by simp) (by simp) (by simp) hlm hb (Nat.zero_le _)
        exact ⟨v', w', hr, ho, hg, hat'⟩
    · obtain ⟨ad, rfl, hc⟩ := hat hm
      obtain ⟨v', w', hr, ho, hg, _, hat'⟩ := run_append_own_at (P := P) k.w 0 t ty e ti z size te.bytes ht hi hz (hs1.trans hsz.symm) hs2 (hzc.trans hsz.symm) (hsz ▸ hte.pos) v n us hown ad m cap vs hl hc h1 hlm hb (Nat.zero_le _)
      exact ⟨v', w', hr, ho, hg, hat'⟩
  rcases hown.2 with ⟨a0, hv, hn⟩ | ⟨g, cap0, cur, hv, hcp, hB, hg, hnc, hcm, hcs, htk⟩
  · subst hn
    have hus : us = [] := List.eq_nil_of_length_eq_zero (by simpa using hown.1)
    subst hus
    rw [hv, ownB_zero]
    by_cases hm : m = 0
    · subst hm
      have hv0 : vs = [] := List.eq_nil_of_length_eq_zero (by simpa using hl)
      subst hv0
      obtain ⟨ti, z, hi, _⟩ := hte.info
      refine ⟨.slice a0 0 0, k.w, ?_, .mt a0, ⟨rfl, rfl, rfl, Nat.le_refl _, fun _ _ _ => rfl⟩, fun b hb => by rw [ownB_zero] at hb; cases hb⟩
      cases a0 <;> cases a <;> simp [Builtin.append_, run_underlying ht, sizeOf, typeInfo, hi, Builtin.lenOf, Builtin.firstCells, storeCells, loadCells, loadCellsFrom]
    · obtain ⟨v', w', hr, ho, hg, hat'⟩ := old (v := .slice none 0 0) ⟨by simp, .inl ⟨rfl, rfl⟩⟩
      have hfin : ∃ v' w', (Builtin.append_ #[t, t] ty #[.slice none 0 0, .slice a m cap]).run P k.w = .ok v' w' ∧ OwnsR w' 0 e size v' (0 + m) ([] ++ vs) ∧ k.w.grownBy w' none ∧ (∀ b, ownB v' = some b → none = some b ∨ b = k.w.heap.size) := by
        refine ⟨v', w', hr, .of ho, hg, fun b hb => ?_⟩
        have hb := ownB_some hb
        rcases hat' with h | h
        · rw [h] at hb; cases hb
        · rw [h] at hb; exact .inr (Option.some.inj hb).symm
      cases a0 with
      | none => exact hfin
      | some b0 =>
        obtain ⟨ad, rfl, hc⟩ := hat hm
        rw [append_mt_run (P := P) (k := k) (ty := ty) ht hte (b := b0) (m := m) (cap := cap) (ad := ad) (vs := vs) (Nat.pos_of_ne_zero hm) (by rw [hl, hsz]) hc (by simpa using hb) (by simpa using hnm)]
        exact hfin
  · have hrow : k.w.ownsRow 0 e size v n us := ⟨hown.1, .inr ⟨g, cap0, cur, hv, hB, hg, hnc, hcm, hcs, htk⟩⟩
    obtain ⟨v', w', hr, ho, hg, hat'⟩ := old hrow
    have hob : ownB v = v.ownBlock := by rw [hv, ownB_pos hcp]; rfl
    refine ⟨v', w', hr, .of ho, by rw [hob]; exact hg, fun b hb => ?_⟩
    have hb := ownB_some hb
    rw [hob]
    rcases hat' with h | h
    · exact .inl (h ▸ hb)
    · rw [h] at hb; exact .inr (Option.some.inj hb).symm
theorem append_step' {F : Fx} {k : K} (hk : HeapOK F k) {dst : Nat} (hd : k.h dst = none) {e : Nat} {r : Ty} {d : Dp} {zs : List r.den} {ws : List Value} {v' : Value} {row : Option Nat} {w' : World} {ids : List Nat}
    (hids : ∀ i ∈ ids, ∃ e r xs d, k.h i = some (.arr e r xs d)) (hv : ∀ b, row = some b → ∃ i ∈ ids, k.own i b)
    (hown : OwnsR w' 0 e r.sz v' zs.length ws) (hl : zs.length ≤ lim) (hg : k.w.grownBy w' row) (hat : ∀ b, ownB v' = some b → row = some b ∨ b = k.w.heap.size)
    (nb : List Nat) (hnb : ∀ b ∈ nb, row ≠ some b ∧ ∃ i ∈ ids, k.own i b) (hnd : nb.Nodup)
    (hr : (d = .no ∧ RdRows k.w (k.ok F) r zs ws) ∨ ∃ ns, d = .yes ns ∧ OwnRows k.w (k.ok F) 0 r ns zs ws nb) :
    ∃ k', k'.w = w' ∧ k'.h = (k.put ((dst, .arr e r zs d) :: ids.map fun i => (i, Ob.gone))).h ∧ HeapOK F k' ∧ Le F k k' ∧ relC F k' (.arr dst) v' := by
  have hdi : dst ∉ ids := by
    intro hm
    obtain ⟨_, _, _, _, h⟩ := hids dst hm
    rw [hd] at h
    cases h
  let k' : K := ⟨w', (k.put ((dst, .arr e r zs d) :: ids.map fun i => (i, Ob.gone))).h, k.μ, fun i => if i = dst then v' else k.ν i, fun i => if i = dst then nb else k.nb i⟩
  have hh : ∀ x, k'.h x = if x = dst then some (.arr e r zs d) else if x ∈ ids then some .gone else k.h x := by
    intro x
    show (lkH ([(dst, Ob.arr e r zs d)] ++ ids.map fun i => (i, Ob.gone)) x).or (k.h x) = _
    rw [lkH_append, lkH_one, lkH_gone]
    split
    · rfl
    · split <;> simp
  have hνd : k'.ν dst = v' := if_pos rfl
  have hnbd : k'.nb dst = nb := if_pos rfl
  have hownd : ∀ b, k'.own dst b → ownB v' = some b ∨ b ∈ nb := by
    intro b hb
    unfold K.own at hb
    rw [hh, if_pos rfl] at hb
    cases d with
    | no => dsimp only at hb; rw [hνd] at hb; exact .inl hb
    | yes ns hs => dsimp only at hb; rw [hνd, hnbd] at hb; exact hb
  have hgone : ∀ i ∈ ids, ∀ b, ¬ k'.own i b := by
    intro i hi b hb
    unfold K.own at hb
    rw [hh, if_neg (by rintro rfl; exact hdi hi), if_pos hi] at hb
    exact hb
  have main := reown hk (k' := k') (fun x => x = dst ∨ x ∈ ids) hg.size (fun b hlt hn => hg.block b hlt fun hv' => ?_) hg.os hg.tape hg.output (fun x hx => ?_) (fun x hx => ?_) (fun x b hx hb => ?_) (fun x y b hx hy h1 h2 => ?_) (fun hle x ob hx ho => ?_)
  · refine ⟨k', rfl, rfl, main.1, main.2, ?_⟩
    obtain ⟨a, c, hf⟩ := hown.form
    refine ⟨⟨a, _, c, hf⟩, ?_⟩
    rw [hh, if_pos rfl]
    exact hνd.symm
  · obtain ⟨i, hi, h⟩ := hv b hv'.symm
    exact hn i (.inr hi) h
  · have h1 : x ≠ dst := fun h => hx (.inl h)
    have h2 : x ∉ ids := fun h => hx (.inr h)
    exact ⟨by rw [hh, if_neg h1, if_neg h2], rfl, if_neg h1, if_neg h1⟩
  · rcases hx with rfl | hx
    · exact .inl hd
    · obtain ⟨e1, r1, xs1, d1, h⟩ := hids x hx
      have hne : x ≠ dst := by rintro rfl; exact hdi hx
      exact .inr ⟨e1, r1, xs1, d1, h, if_neg hne, .inr (.inr (by rw [hh, if_neg hne, if_pos hx]))⟩
  · rcases hx with rfl | hx
    · rcases hownd b hb with h | h
      · rcases hat b h with h1 | h1
        · obtain ⟨i, hi, h2⟩ := hv b h1
          exact .inl ⟨i, .inr hi, h2⟩
        · exact .inr ⟨by omega, (hown.lt b h).2⟩
      · obtain ⟨_, i, hi, h2⟩ := hnb b h
        exact .inl ⟨i, .inr hi, h2⟩
    · exact absurd hb (hgone x hx b)
  · rcases hx with rfl | hx
    · rcases hy with rfl | hy
      · rfl
      · exact absurd h2 (hgone y hy b)
    · exact absurd h1 (hgone x hx b)
  · rcases hx with rfl | hx
    · rw [hh, if_pos rfl] at ho
      cases ho
      have hown2 : OwnsR k'.w (F.bs x) e r.sz (k'.ν x) zs.length ws := by rw [hνd]; exact hown
      rcases hr with ⟨rfl, hr⟩ | ⟨ns, rfl, hr⟩
      · exact ⟨ws, hown2, hle.rdRows hr, hl⟩
      · refine ⟨ws, ws, hown2, ?_, hl, ?_, rfl⟩
        · rw [hnbd]
          exact OwnRows.move hle.ok hle.hp hr fun b hb => by
            obtain ⟨h1, i, hi, h2⟩ := hnb b hb
            exact hg.block b (hk.rng i b h2).2 fun h => h1 h.symm
        · rw [hνd, hnbd]
          refine List.nodup_append.2 ⟨by cases ownB v' <;> simp, hnd, fun a ha b hb hab => ?_⟩
          subst hab
          have ha : ownB v' = some a := by simpa using ha
          obtain ⟨h1, i, hi, h2⟩ := hnb a hb
          rcases hat a ha with h3 | h3
          · exact h1 h3
          · have := (hk.rng i a h2).2
            omega
    · rw [hh, if_neg (by rintro rfl; exact hdi hx), if_pos hx] at ho
      cases ho
      trivial
end mem
end Go.MC


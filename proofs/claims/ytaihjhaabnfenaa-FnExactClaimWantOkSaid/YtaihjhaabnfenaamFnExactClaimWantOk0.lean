/- Part 0 of the texts of the claim FnExactClaimWantOk: an interpreter of the translated code over data, proved sound; the contracts of the functions; the same in plain words. -/
import Derived.Maps.AppendAt
import Derived.Below
import Derived.KernelRfl
import Derived.Laws.StructEq
import Derived.Laws.BytesArg
import Derived.Great.BuildSlice
import Derived.Laws.Closers25b
import Derived.Tactics
import Derived.Orders
/- Typed data, and how it is read in memory (general: no program in sight). -/
set_option linter.unusedVariables false
set_option linter.unusedSimpArgs false
namespace Go.MC
open Go.RowKit

/-- The kinds of data: one-cell kinds, slices (of rows), and pairs (the cells of a struct, nested to the right by its fields). -/
inductive Ty where
  | bool
  | int (k : IntKind)
  | str
  | slice (r : Ty)
  | pair (a b : Ty)
  deriving DecidableEq, Inhabited

@[reducible] def Ty.den : Ty → Type
  | .bool => Bool
  | .int _ => Int
  | .str => List UInt8
  | .slice r => List r.den
  | .pair a b => a.den × b.den

/-- How many cells. -/
def Ty.sz : Ty → Nat
  | .pair a b => a.sz + b.sz
  | _ => 1

theorem Ty.sz_pos : ∀ t : Ty, 0 < t.sz
  | .bool => Nat.one_pos
  | .int _ => Nat.one_pos
  | .str => Nat.one_pos
  | .slice _ => Nat.one_pos
  | .pair a _ => Nat.lt_of_lt_of_le a.sz_pos (Nat.le_add_right _ _)

def Ty.dflt : (t : Ty) → t.den
  | .bool => false
  | .int _ => (0 : Int)
  | .str => []
  | .slice _ => []
  | .pair a b => (a.dflt, b.dflt)

/-- No slice has more elements, no text more bytes. -/
def lim : Nat := 140737488355328

/-- What holds of all data that is read: kinds' ranges, lengths. -/
def Fit : (t : Ty) → t.den → Prop
  | .bool, _ => True
  | .int k, n => k.has n
  | .str, s => s.length ≤ lim
  | .slice r, xs => xs.length ≤ lim ∧ ∀ x ∈ xs, Fit r x
  | .pair a b, x => Fit a x.1 ∧ Fit b x.2

/-- The cells 'vs' hold the data x in the world w; every block that is met behind them satisfies 'ok'. -/
def Rd (w : World) (ok : Nat → Prop) : (t : Ty) → t.den → List Value → Prop
  | .bool, b, vs => vs = [.bool b]
  | .int k, n, vs => vs = [.int k n] ∧ k.has n
  | .str, s, vs => vs = [.string ⟨⟨s⟩⟩] ∧ s.length ≤ lim
  | .slice r, xs, vs => ∃ a cap, vs = [.slice a xs.length cap] ∧ xs.length ≤ cap ∧ xs.length ≤ lim ∧
      ∀ j x, xs[j]? = some x → ∃ ad cs, a = some ad ∧ ok ad.block ∧ Rd w ok r x cs ∧ ∀ i v, cs[i]? = some v → w.cell? (ad.add (j * r.sz + i)) = some v
  | .pair a b, x, vs => ∃ v1 v2, vs = v1 ++ v2 ∧ Rd w ok a x.1 v1 ∧ Rd w ok b x.2 v2

theorem Rd.length {w : World} {ok : Nat → Prop} : ∀ {t : Ty} {x : t.den} {vs : List Value}, Rd w ok t x vs → vs.length = t.sz
  | .bool, _, _, h => by simp only [Rd] at h; subst h; rfl
  | .int _, _, _, h => by simp only [Rd] at h; rw [h.1]; rfl
  | .str, _, _, h => by simp only [Rd] at h; rw [h.1]; rfl
  | .slice _, _, _, h => by simp only [Rd] at h; obtain ⟨_, _, rfl, _⟩ := h; rfl
  | .pair _ _, _, _, h => by
    simp only [Rd] at h
    obtain ⟨v1, v2, rfl, h1, h2⟩ := h
    simp [Ty.sz, h1.length, h2.length]

theorem Rd.fit {w : World} {ok : Nat → Prop} : ∀ {t : Ty} {x : t.den} {vs : List Value}, Rd w ok t x vs → Fit t x
  | .bool, _, _, _ => trivial
  | .int _, _, _, h => by simp only [Rd] at h; exact h.2
  | .str, _, _, h => by simp only [Rd] at h; exact h.2
  | .slice r, xs, _, h => by
    simp only [Rd] at h
    obtain ⟨_, _, _, _, hl, hx⟩ := h
    refine ⟨hl, fun x hm => ?_⟩
    obtain ⟨j, hj⟩ := List.getElem?_of_mem hm
    obtain ⟨_, _, _, _, hr, _⟩ := hx j x hj
    exact hr.fit
  | .pair _ _, _, _, h => by
    simp only [Rd] at h
    obtain ⟨v1, v2, _, h1, h2⟩ := h
    exact ⟨h1.fit, h2.fit⟩

theorem Rd.one {w : World} {ok : Nat → Prop} : ∀ {t : Ty} {x : t.den} {vs : List Value}, Rd w ok t x vs → ∀ v ∈ vs, v.oneCell' = true
  | .bool, _, _, h => by simp only [Rd] at h; subst h; intro v hv; simp at hv; subst hv; rfl
  | .int _, _, _, h => by simp only [Rd] at h; rw [h.1]; intro v hv; simp at hv; subst hv; rfl
  | .str, _, _, h => by simp only [Rd] at h; rw [h.1]; intro v hv; simp at hv; subst hv; rfl
  | .slice _, _, _, h => by simp only [Rd] at h; obtain ⟨_, _, rfl, _⟩ := h; intro v hv; simp at hv; subst hv; rfl
  | .pair _ _, _, _, h => by
    simp only [Rd] at h
    obtain ⟨v1, v2, rfl, h1, h2⟩ := h
    intro v hv
    rcases List.mem_append.1 hv with hv | hv
    · exact h1.one v hv
    · exact h2.one v hv

/-- Reading goes on in a world in which the met blocks stand as they were. -/
theorem Rd.mono {w w' : World} {ok ok' : Nat → Prop} (ho : ∀ b, ok b → ok' b) (hw : ∀ b, ok b → b < w.heap.size → w'.heap[b]? = w.heap[b]?) :
    ∀ {t : Ty} {x : t.den} {vs : List Value}, Rd w ok t x vs → Rd w' ok' t x vs
  | .bool, _, _, h => by simpa only [Rd] using h
  | .int _, _, _, h => by simpa only [Rd] using h
  | .str, _, _, h => by simpa only [Rd] using h
  | .slice r, xs, _, h => by
    simp only [Rd] at h ⊢
    obtain ⟨a, cap, hv, hc, hl, hx⟩ := h
    refine ⟨a, cap, hv, hc, hl, fun j x hj => ?_⟩
    obtain ⟨ad, cs, ha, hok, hr, hcell⟩ := hx j x hj
    refine ⟨ad, cs, ha, ho _ hok, hr.mono ho hw, fun i v hi => ?_⟩
    have hb : (ad.add (j * r.sz + i)).block = ad.block := by unfold Addr.add; split <;> rfl
    have h0 := hcell i v hi
    have hlt := World.block_lt_of_cell? w _ h0
    rw [hb] at hlt
    rw [World.cell?_of_block (w := w) (by rw [hb]; exact hw _ hok hlt)]
    exact h0
  | .pair _ _, _, _, h => by
    simp only [Rd] at h ⊢
    obtain ⟨v1, v2, hv, h1, h2⟩ := h
    exact ⟨v1, v2, hv, h1.mono ho hw, h2.mono ho hw⟩

theorem add_block (ad : Addr) (n : Nat) : (ad.add n).block = ad.block := by unfold Addr.add; split <;> rfl
theorem add_add (ad : Addr) (m n : Nat) : (ad.add m).add n = ad.add (m + n) := by
  unfold Addr.add
  by_cases hm : m = 0
  · subst hm; simp
  · by_cases hn : n = 0
    · subst hn; simp [hm]
    · simp [hm, hn, Nat.add_assoc]
theorem add_lit (g n : Nat) : (⟨g, 0, none⟩ : Addr).add n = ⟨g, n, none⟩ := by unfold Addr.add; split <;> simp_all
theorem add_lit2 (g m n : Nat) : (⟨g, m, none⟩ : Addr).add n = ⟨g, m + n, none⟩ := by unfold Addr.add; split <;> simp_all

/-- A row of cells at an address. -/
def CellsAt (w : World) (ad : Addr) (vs : List Value) : Prop := ∀ i v, vs[i]? = some v → w.cell? (ad.add i) = some v

theorem CellsAt.append {w : World} {ad : Addr} {v1 v2 : List Value} : CellsAt w ad (v1 ++ v2) ↔ CellsAt w ad v1 ∧ CellsAt w (ad.add v1.length) v2 := by
  constructor
  · intro h
    refine ⟨fun i v hi => h i v ?_, fun i v hi => ?_⟩
    · rw [List.getElem?_append_left (List.getElem?_eq_some_iff.1 hi).1]; exact hi
    · rw [add_add]
      exact h _ v (by rw [List.getElem?_append_right (by omega)]; simpa using hi)
  · rintro ⟨h1, h2⟩ i v hi
    by_cases hlt : i < v1.length
    · rw [List.getElem?_append_left hlt] at hi; exact h1 i v hi
    · rw [List.getElem?_append_right (by omega)] at hi
      have := h2 _ v hi
      rw [add_add] at this
      rwa [show v1.length + (i - v1.length) = i by omega] at this

theorem CellsAt.mono {w w' : World} {ad : Addr} {vs : List Value} (h : CellsAt w ad vs) (hb : w'.heap[ad.block]? = w.heap[ad.block]?) : CellsAt w' ad vs := fun i v hi => by
  rw [World.cell?_of_block (w := w) (by rw [add_block]; exact hb)]
  exact h i v hi

/-- The element j of a slice that is read. -/
theorem Rd.at {w : World} {ok : Nat → Prop} {r : Ty} {xs : List r.den} {a : Option Addr} {n cap : Nat} (h : Rd w ok (.slice r) xs [.slice a n cap]) {j : Nat} (hj : j < xs.length) :
    n = xs.length ∧ ∃ ad cs, a = some ad ∧ ok ad.block ∧ Rd w ok r (xs.getD j r.dflt) cs ∧ CellsAt w (ad.add (j * r.sz)) cs := by
  simp only [Rd] at h
  obtain ⟨a', cap', hv, hc, hl, hx⟩ := h
  injection hv with hv _
  injection hv with h1 h2 h3
  refine ⟨h2, ?_⟩
  obtain ⟨ad, cs, ha, hok, hr, hcell⟩ := hx j _ (List.getElem?_eq_getElem hj)
  refine ⟨ad, cs, h1.trans ha, hok, ?_, fun i v hi => ?_⟩
  · rw [List.getD_eq_getElem?_getD, List.getElem?_eq_getElem hj]; exact hr
  · rw [add_add]; exact hcell i v hi

theorem Rd.slice_form {w : World} {ok : Nat → Prop} {r : Ty} {xs : List r.den} {vs : List Value} (h : Rd w ok (.slice r) xs vs) :
    ∃ a cap, vs = [.slice a xs.length cap] ∧ xs.length ≤ cap ∧ xs.length ≤ lim := by
  simp only [Rd] at h
  obtain ⟨a, cap, hv, hc, hl, _⟩ := h
  exact ⟨a, cap, hv, hc, hl⟩

/-- A piece of a slice that is read. -/
theorem Rd.piece {w : World} {ok : Nat → Prop} {r : Ty} {xs : List r.den} {a : Option Addr} {n cap : Nat} (h : Rd w ok (.slice r) xs [.slice a n cap]) (l k m : Nat) (hl : l ≤ k) (hk : k ≤ xs.length) (hm : k ≤ m) (hmc : m ≤ cap) :
    Rd w ok (.slice r) ((xs.take k).drop l) [.slice (if m = l then a else a.map (·.add (l * r.sz))) (k - l) (m - l)] := by
  simp only [Rd] at h ⊢
  obtain ⟨a', cap', hv, hc, hlm, hx⟩ := h
  injection hv with hv _
  injection hv with h1 h2 h3
  subst h1 h2 h3
  have hlen : ((xs.take k).drop l).length = k - l := by simp; omega
  refine ⟨_, _, by rw [hlen], by rw [hlen]; omega, by rw [hlen]; omega, fun j x hj => ?_⟩
  have hjl : j < k - l := by rw [← hlen]; exact (List.getElem?_eq_some_iff.1 hj).1
  have hj' : xs[l + j]? = some x := by
    rw [List.getElem?_drop, List.getElem?_take] at hj
    rwa [if_pos (by omega)] at hj
  obtain ⟨ad, cs, ha, hok, hr, hcell⟩ := hx (l + j) x hj'
  have hne : m ≠ l := by omega
  refine ⟨ad.add (l * r.sz), cs, by rw [if_neg hne, ha]; rfl, by rw [add_block]; exact hok, hr, fun i v hi => ?_⟩
  rw [add_add]
  have := hcell i v hi
  rwa [Nat.add_mul, Nat.add_assoc] at this

/-- An empty slice reads as nothing. -/
theorem Rd.nil {w : World} {ok : Nat → Prop} (r : Ty) (a : Option Addr) (cap : Nat) : Rd w ok (.slice r) [] [.slice a 0 cap] := by
  simp only [Rd]
  exact ⟨a, cap, rfl, by simp, by simp, fun j x hj => by simp at hj⟩

/-- Rows laid one behind the other. -/
def RdRows (w : World) (ok : Nat → Prop) (r : Ty) : List r.den → List Value → Prop
  | [], vs => vs = []
  | x :: xs, vs => ∃ v1 v2, vs = v1 ++ v2 ∧ Rd w ok r x v1 ∧ RdRows w ok r xs v2

theorem RdRows.length {w : World} {ok : Nat → Prop} {r : Ty} : ∀ {xs : List r.den} {vs : List Value}, RdRows w ok r xs vs → vs.length = xs.length * r.sz
  | [], _, h => by simp only [RdRows] at h; subst h; simp
  | x :: xs, _, h => by
    obtain ⟨v1, v2, rfl, h1, h2⟩ := h
    simp [h1.length, h2.length, Nat.add_mul, Nat.add_comm]

theorem RdRows.mono {w w' : World} {ok ok' : Nat → Prop} (ho : ∀ b, ok b → ok' b) (hw : ∀ b, ok b → b < w.heap.size → w'.heap[b]? = w.heap[b]?) {r : Ty} :
    ∀ {xs : List r.den} {vs : List Value}, RdRows w ok r xs vs → RdRows w' ok' r xs vs
  | [], _, h => h
  | _ :: _, _, h => by
    obtain ⟨v1, v2, hv, h1, h2⟩ := h
    exact ⟨v1, v2, hv, h1.mono ho hw, RdRows.mono ho hw h2⟩

theorem RdRows.append {w : World} {ok : Nat → Prop} {r : Ty} : ∀ {xs ys : List r.den} {us vs : List Value}, RdRows w ok r xs us → RdRows w ok r ys vs → RdRows w ok r (xs ++ ys) (us ++ vs)
  | [], _, _, _, h, k => by simp only [RdRows] at h; subst h; simpa using k
  | _ :: _, _, _, _, h, k => by
    obtain ⟨v1, v2, rfl, h1, h2⟩ := h
    exact ⟨v1, v2 ++ _, by simp, h1, RdRows.append h2 k⟩

theorem RdRows.one {w : World} {ok : Nat → Prop} {r : Ty} : ∀ {xs : List r.den} {vs : List Value}, RdRows w ok r xs vs → ∀ v ∈ vs, v.oneCell' = true
  | [], _, h => by simp only [RdRows] at h; subst h; simp
  | _ :: _, _, h => by
    obtain ⟨v1, v2, rfl, h1, h2⟩ := h
    intro v hv
    rcases List.mem_append.1 hv with hv | hv
    · exact h1.one v hv
    · exact RdRows.one h2 v hv

theorem RdRows.fit {w : World} {ok : Nat → Prop} {r : Ty} : ∀ {xs : List r.den} {vs : List Value}, RdRows w ok r xs vs → ∀ x ∈ xs, Fit r x
  | [], _, _ => by simp
  | _ :: _, _, h => by
    obtain ⟨v1, v2, rfl, h1, h2⟩ := h
    intro y hy
    rcases List.mem_cons.1 hy with rfl | hy
    · exact h1.fit
    · exact RdRows.fit h2 y hy

/-- Row j: what stands ahead of it, itself, what stands behind it. -/
theorem RdRows.split {w : World} {ok : Nat → Prop} {r : Ty} : ∀ {xs : List r.den} {vs : List Value} (j : Nat), RdRows w ok r xs vs → j < xs.length →
    ∃ u c v, vs = u ++ (c ++ v) ∧ u.length = j * r.sz ∧ Rd w ok r (xs.getD j r.dflt) c ∧ (∀ (ok' : Nat → Prop) x' c', (∀ b, ok b → ok' b) → Rd w ok' r x' c' → RdRows w ok' r (xs.set j x') (u ++ (c' ++ v)))
  | [], _, _, _, h => by simp at h
  | x :: xs, _, 0, h, _ => by
    obtain ⟨v1, v2, rfl, h1, h2⟩ := h
    exact ⟨[], v1, v2, rfl, by simp, h1, fun ok' x' c' ho h' => ⟨c', v2, rfl, h', RdRows.mono ho (fun _ _ _ => rfl) h2⟩⟩
  | x :: xs, _, j + 1, h, hj => by
    obtain ⟨v1, v2, rfl, h1, h2⟩ := h
    obtain ⟨u, c, v, rfl, hu, hc, hs⟩ := RdRows.split j h2 (by simpa using hj)
    exact ⟨v1 ++ u, c, v, by simp, by simp [hu, h1.length, Nat.add_mul, Nat.add_comm], hc, fun ok' x' c' ho h' => ⟨v1, _, by simp, h1.mono ho (fun _ _ _ => rfl), hs ok' x' c' ho h'⟩⟩

/-- A row of rows at an address, as a slice. -/
theorem RdRows.slice {w : World} {ok : Nat → Prop} {r : Ty} {xs : List r.den} {vs : List Value} (h : RdRows w ok r xs vs) (ad : Addr) (cap : Nat) (hat : xs ≠ [] → CellsAt w ad vs) (hok : xs ≠ [] → ok ad.block) (hc : xs.length ≤ cap) (hl : xs.length ≤ lim) :
    Rd w ok (.slice r) xs [.slice (some ad) xs.length cap] := by
  simp only [Rd]
  refine ⟨_, _, rfl, hc, hl, fun j x hj => ?_⟩
  have hjl := (List.getElem?_eq_some_iff.1 hj).1
  have hne : xs ≠ [] := by rintro rfl; simp at hjl
  obtain ⟨u, c, v, rfl, hu, hr, _⟩ := h.split j hjl
  have hx : xs.getD j r.dflt = x := by rw [List.getD_eq_getElem?_getD, hj]; rfl
  rw [hx] at hr
  refine ⟨ad, c, rfl, hok hne, hr, fun i v' hi => ?_⟩
  have h2 := ((CellsAt.append.1 ((CellsAt.append.1 (hat hne)).2)).1) i v' hi
  rwa [add_add, hu] at h2

/-- A slice that is read, as a row of rows. -/
theorem Rd.rows {w : World} {ok : Nat → Prop} {r : Ty} : ∀ {xs : List r.den} {a : Option Addr} {n cap : Nat}, Rd w ok (.slice r) xs [.slice a n cap] →
    ∃ vs, RdRows w ok r xs vs ∧ n = xs.length ∧ (xs ≠ [] → ∃ ad, a = some ad ∧ ok ad.block ∧ CellsAt w ad vs) := by
  intro xs a n cap h
  simp only [Rd] at h
  obtain ⟨a', cap', hv, hc, hlm, hx⟩ := h
  injection hv with hv _
  injection hv with h1 h2 h3
  subst h1 h2 h3
  suffices H : ∀ (ys : List r.den) (k : Nat), (∀ j x, ys[j]? = some x → ∃ ad cs, a = some ad ∧ ok ad.block ∧ Rd w ok r x cs ∧ ∀ i v, cs[i]? = some v → w.cell? (ad.add ((k + j) * r.sz + i)) = some v) →
      ∃ vs, RdRows w ok r ys vs ∧ (ys ≠ [] → ∃ ad, a = some ad ∧ ok ad.block ∧ CellsAt w (ad.add (k * r.sz)) vs) by
    obtain ⟨vs, h1, h2⟩ := H xs 0 (by simpa using hx)
    refine ⟨vs, h1, rfl, fun hne => ?_⟩
    obtain ⟨ad, ha, hok, hc⟩ := h2 hne
    exact ⟨ad, ha, hok, by rw [Nat.zero_mul] at hc; exact hc⟩
  intro ys
  induction ys with
  | nil => exact fun k _ => ⟨[], rfl, fun h => absurd rfl h⟩
  | cons y ys ih =>
    intro k hy
    obtain ⟨vs, h1, h2⟩ := ih (k + 1) (fun j x hj => by
      have := hy (j + 1) x (by simpa using hj)
      rwa [show k + (j + 1) = k + 1 + j by omega] at this)
    obtain ⟨ad, cs, ha, hok, hr, hcell⟩ := hy 0 y (by simp)
    refine ⟨cs ++ vs, ⟨cs, vs, rfl, hr, h1⟩, fun _ => ⟨ad, ha, hok, CellsAt.append.2 ⟨fun i v hi => ?_, ?_⟩⟩⟩
    · rw [add_add]; simpa using hcell i v hi
    · rw [hr.length, add_add]
      by_cases hne : ys = []
      · subst hne
        simp only [RdRows] at h1
        subst h1
        intro i v hi
        simp at hi
      · obtain ⟨ad', ha', _, hc'⟩ := h2 hne
        rw [ha] at ha'
        injection ha' with ha'
        subst ha'
        rw [show k * r.sz + r.sz = (k + 1) * r.sz by rw [Nat.add_mul, Nat.one_mul]]
        exact hc'

end Go.MC

/- An interpreter of the translated code over typed data: what it tells is proved to hold of the machine in the texts behind this one. No program in sight. -/
set_option linter.unusedVariables false
set_option linter.unusedSimpArgs false
namespace Go.MC
open Go.RowKit

/-- What is known of one cell's value. -/
inductive C where
  | u
  | nd
  | v (t : Ty) (x : t.den)
  | emp
  | arr (id : Nat)
  | pd (t : Ty) (x : t.den)
  | pb (id off : Nat)
  | pa (id : Nat) (j : Int) (p : List (Nat × Nat))
  | fn (g : Nat) (caps : List Nat)

inductive V1 where
  | one (c : C)
  | agg (cs : List C)

inductive AV where
  | w (v : V1)
  | tup (vs : List V1)

/-- A block of the call's own: variables; a slice's array that may be written; one that is never written again; one of which nothing is known. -/
inductive Ob where
  | box (cs : List C)
  | arr (e : Nat) (r : Ty) (xs : List r.den)
  | imm (r : Ty) (xs : List r.den)
  | gone

structure St where
  fr : List (Nat × AV)
  H : List (Nat × Ob)

def lkF : List (Nat × AV) → Nat → AV
  | [], _ => .w (.one .u)
  | (j, v) :: l, i => bif Nat.beq j i then v else lkF l i

def lkH : List (Nat × Ob) → Nat → Option Ob
  | [], _ => none
  | (j, o) :: l, i => bif Nat.beq j i then some o else lkH l i

/-- What is known of a type: its cells, its bytes, is it a struct, how it reads, its zero value's cells, its fields (type, offset), a slice's element. -/
structure TD where
  sz : Nat
  bytes : Nat
  agg : Bool
  ty : Ty
  zero : List C
  flds : List (Nat × Nat)
  elem : Nat
  dat : Bool
  eqs : List Ty

abbrev Dv : Type := Sigma Ty.den

inductive PS where
  | d (t : Ty) (agg : Bool)
  | bx (t : Ty)
  | cl (g : Nat) (ts : List Ty)

inductive RS where
  | d (t : Ty) (agg : Bool)
  | own (t : Ty) (agg : Bool) (es : List Nat)
  | any

/-- A function's summary: its parameters, are own slices that are handed over never written again, what must hold of the data, what comes out (the results, then what the boxes hold). -/
structure Summ where
  ps : List PS
  fz : Bool
  pre : List Dv → Bool
  out : List Dv → List Dv
  rs : List RS

/-- Readings of a state, one after the other. -/
inductive M (α : Type) : Type where
  | ret (a : α)
  | no
  | slot (i : Nat) (g : AV → M α)
  | obj (id : Nat) (g : Option Ob → M α)
  | grd (b : Bool) (m : M α)
  | ite (b : Bool) (m n : M α)
def M.pure {α : Type} (a : α) : M α := .ret a
def M.bind {α β : Type} : M α → (α → M β) → M β
  | .ret a, f => f a
  | .no, _ => .no
  | .slot i g, f => .slot i fun v => (g v).bind f
  | .obj id g, f => .obj id fun v => (g v).bind f
  | .grd b m, f => .grd b (m.bind f)
  | .ite b m n, f => .ite b (m.bind f) (n.bind f)
/-- Told onwards, with a list of what was read. -/
def M.run {α : Type} : M α → (ρ : Type) → St → List Nat → (α → List Nat → Option ρ) → Option ρ
  | .ret a, _, _, L, k => k a L
  | .no, _, _, _, _ => none
  | .slot i g, ρ, S, L, k => (g (lkF S.fr i)).run ρ S ((2 * i) :: L) k
  | .obj id g, ρ, S, L, k => (g (lkH S.H id)).run ρ S ((2 * id + 1) :: L) k
  | .grd b m, ρ, S, L, k => bif b then m.run ρ S L k else none
  | .ite b m n, ρ, S, L, k => bif b then m.run ρ S L k else n.run ρ S L k
instance {α : Type} : CoeFun (M α) (fun _ => (ρ : Type) → St → List Nat → (α → List Nat → Option ρ) → Option ρ) := ⟨M.run⟩
instance : Monad M := { pure := M.pure, bind := M.bind }
def fail {α : Type} : M α := .no
def guardB (b : Bool) : M Unit := .grd b (.ret ())
def iteB {α : Type} (b : Bool) (m n : M α) : M α := .ite b m n
def rdS (i : Nat) : M AV := .slot i .ret
def rdO (id : Nat) : M (Option Ob) := .obj id .ret
def ofOpt {α : Type} : Option α → M α
  | some a => M.pure a
  | none => fail

structure Upd where
  val : AV
  obs : List (Nat × Ob)

def okInt (k : IntKind) (n : Int) : Bool := decide (k.min ≤ n) && decide (n ≤ k.max)

def constC : Value → C
  | .bool b => .v .bool b
  | .int k n => bif okInt k n then .v (.int k) n else .u
  | .string s => bif Nat.ble s.data.toList.length lim then .v .str s.data.toList else .u
  | .slice none 0 0 => .emp
  | _ => .u

def opd : Operand → M AV
  | .tmp t => rdS t
  | .const v => M.pure (.w (.one (constC v)))
  | .func f => M.pure (.w (.one (.fn f [])))
  | .global _ => fail

def asV1 : AV → M V1
  | .w v => M.pure v
  | .tup _ => fail
def asC : AV → M C
  | .w (.one c) => M.pure c
  | _ => fail
def V1.cells : V1 → List C
  | .one c => [c]
  | .agg cs => cs
def opC (x : Operand) : M C := do asC (← opd x)
def opV (x : Operand) : M V1 := do asV1 (← opd x)

def castT (t t' : Ty) (x : t'.den) : Option t.den := if h : t' = t then some (h ▸ x) else none

/-- A cell as data; an own slice is, with 'fz', never written again. -/
def packC (fz : Bool) (t : Ty) : C → M (t.den × List (Nat × Ob))
  | .v t' x => M.bind (ofOpt (castT t t' x)) fun x => M.pure (x, [])
  | .emp => match t with
    | .slice _ => M.pure ([], [])
    | _ => fail
  | .arr id => M.bind (rdO id) fun
    | some (.arr _ r xs) => M.bind (ofOpt (castT t (.slice r) xs)) fun x => M.pure (x, bif fz then [(id, .imm r xs)] else [])
    | some (.imm r xs) => M.bind (ofOpt (castT t (.slice r) xs)) fun x => M.pure (x, [])
    | _ => fail
  | _ => fail
def pack1 (fz : Bool) (t : Ty) : List C → M (t.den × List C × List (Nat × Ob))
  | [] => fail
  | c :: cs => M.bind (packC fz t c) fun p => M.pure (p.1, cs, p.2)
/-- Cells put together as data. -/
def pack (fz : Bool) : (t : Ty) → List C → M (t.den × List C × List (Nat × Ob))
  | .pair a b, cs => M.bind (pack fz a cs) fun p => M.bind (pack fz b p.2.1) fun q => M.pure ((p.1, q.1), q.2.1, q.2.2 ++ p.2.2)
  | .slice r, cs => pack1 fz (.slice r) cs
  | .bool, cs => pack1 fz .bool cs
  | .int k, cs => pack1 fz (.int k) cs
  | .str, cs => pack1 fz .str cs

def unpack : (t : Ty) → t.den → List C
  | .pair a b, x => unpack a x.1 ++ unpack b x.2
  | .bool, x => [.v .bool x]
  | .int k, x => [.v (.int k) x]
  | .str, x => [.v .str x]
  | .slice r, x => [.v (.slice r) x]

/-- Data as a value. -/
def asV (agg : Bool) (t : Ty) (x : t.den) : V1 := bif agg then .agg (unpack t x) else .one (.v t x)

/-- Field j of n: the data, and where its cells begin. -/
def fldT : (t : Ty) → t.den → (n j : Nat) → Option Dv
  | t, x, n, 0 => bif Nat.ble n 1 then some ⟨t, x⟩ else match t, x with
    | .pair a _, x => some ⟨a, x.1⟩
    | _, _ => none
  | .pair _ b, x, n, j + 1 => fldT b x.2 (n - 1) j
  | _, _, _, _ + 1 => none
def offT : (t : Ty) → (n j : Nat) → Nat
  | _, _, 0 => 0
  | .pair a b, n, j + 1 => a.sz + offT b (n - 1) j
  | _, _, _ + 1 => 0
def projT : (t : Ty) → t.den → List (Nat × Nat) → Option Dv
  | t, x, [] => some ⟨t, x⟩
  | t, x, (n, j) :: p => match fldT t x n j with
    | some d => projT d.1 d.2 p
    | none => none
/-- The same of types alone. -/
def fldTy : (t : Ty) → (n j : Nat) → Option Ty
  | t, n, 0 => bif Nat.ble n 1 then some t else match t with
    | .pair a _ => some a
    | _ => none
  | .pair _ b, n, j + 1 => fldTy b (n - 1) j
  | _, _, _ + 1 => none
def pathTy : Ty → List (Nat × Nat) → Option (Ty × Nat)
  | t, [] => some (t, 0)
  | t, (n, j) :: p => match fldTy t n j with
    | some t' => match pathTy t' p with
      | some (u, o) => some (u, offT t n j + o)
      | none => none
    | none => none
def setF : (t : Ty) → t.den → (n j : Nat) → Dv → Option t.den
  | t, x, n, 0, d => bif Nat.ble n 1 then castT t d.1 d.2 else match t, x with
    | .pair a b, x => match castT a d.1 d.2 with
      | some y => some (y, x.2)
      | none => none
    | _, _ => none
  | .pair a b, x, n, j + 1, d => match setF b x.2 (n - 1) j d with
    | some y => some (x.1, y)
    | none => none
  | _, _, _, _ + 1, _ => none
def setP : (t : Ty) → t.den → List (Nat × Nat) → Dv → Option t.den
  | t, _, [], d => castT t d.1 d.2
  | t, x, (n, j) :: p, d => match fldT t x n j with
    | some e => match setP e.1 e.2 p d with
      | some y => setF t x n j ⟨e.1, y⟩
      | none => none
    | none => none

def splice (cs : List C) (off : Nat) (ds : List C) : List C := cs.take off ++ (ds ++ cs.drop (off + ds.length))
def C.known : C → Bool
  | .u => false
  | .nd => false
  | _ => true

section ops
variable (TT : Nat → Option TD) (Φ : Nat → Option Summ)

/-- Data as it stands behind a pointer, read as type T. -/
def loadD (td : TD) (t : Ty) (x : t.den) : M V1 := M.bind (guardB (Nat.beq t.sz td.sz)) fun _ => M.pure (asV td.agg t x)

def loadAt (td : TD) : C → M V1
  | .pb id off => M.bind (rdO id) fun
    | some (.box cs) => M.bind (guardB (Nat.ble (off + td.sz) cs.length)) fun _ =>
      match td.agg, (cs.drop off).take td.sz with
      | true, l => M.pure (.agg l)
      | false, [c] => M.pure (.one c)
      | false, _ => fail
    | _ => fail
  | .pd t x => loadD td t x
  | .pa id j p => M.bind (rdO id) fun
    | some (.arr _ r xs) => M.bind (ofOpt (projT r (xs.getD j.toNat r.dflt) p)) fun d => loadD td d.1 d.2
    | _ => fail
  | _ => fail

def storeAt (td : TD) (p : C) (v : V1) : M Upd := M.bind (guardB (Nat.beq v.cells.length td.sz && v.cells.all C.known)) fun _ =>
  match p with
  | .pb id off => M.bind (rdO id) fun
    | some (.box cs) => M.bind (guardB (Nat.ble (off + td.sz) cs.length)) fun _ => M.pure ⟨.w (.one .u), [(id, .box (splice cs off v.cells))]⟩
    | _ => fail
  | .pa id j p => M.bind (rdO id) fun
    | some (.arr e r xs) => M.bind (ofOpt (projT r (xs.getD j.toNat r.dflt) p)) fun d => M.bind (guardB (Nat.beq d.1.sz td.sz)) fun _ => M.bind (pack true d.1 v.cells) fun q =>
      M.bind (ofOpt (setP r (xs.getD j.toNat r.dflt) p ⟨d.1, q.1⟩)) fun y => M.bind (guardB (q.2.2.all fun z => !Nat.beq z.1 id)) fun _ =>
        M.pure ⟨.w (.one .u), (id, .arr e r (xs.set j.toNat y)) :: q.2.2⟩
    | _ => fail
  | _ => fail

def fieldAddrAt (td : TD) (p : C) (j : Nat) : M C := M.bind (ofOpt td.flds[j]?) fun f =>
  match p with
  | .pb id off => M.pure (.pb id (off + f.2))
  | .pd t x => M.bind (ofOpt (fldT t x td.flds.length j)) fun d => M.bind (guardB (Nat.beq (offT t td.flds.length j) f.2)) fun _ => M.pure (.pd d.1 d.2)
  | .pa id i p => M.bind (rdO id) fun
    | some (.arr _ r xs) => M.bind (ofOpt (projT r (xs.getD i.toNat r.dflt) p)) fun d => M.bind (ofOpt (fldT d.1 d.2 td.flds.length j)) fun _ =>
      M.bind (guardB (Nat.beq (offT d.1 td.flds.length j) f.2)) fun _ => M.pure (.pa id i (p ++ [(td.flds.length, j)]))
    | _ => fail
  | _ => fail

def inRange (i : Int) (n : Nat) : M Unit := M.bind (guardB (decide (0 ≤ i))) fun _ => guardB (decide (i < (n : Int)))

def indexAddrAt (td : TD) (x : C) (i : Int) : M C := match x with
  | .v (.slice r) xs => M.bind (inRange i xs.length) fun _ => M.bind (guardB (Nat.beq r.sz td.sz)) fun _ => M.pure (.pd r (xs.getD i.toNat r.dflt))
  | .arr id => M.bind (rdO id) fun
    | some (.arr _ r xs) => M.bind (inRange i xs.length) fun _ => M.bind (guardB (Nat.beq r.sz td.sz)) fun _ => M.pure (.pa id i [])
    | some (.imm r xs) => M.bind (inRange i xs.length) fun _ => M.bind (guardB (Nat.beq r.sz td.sz)) fun _ => M.pure (.pd r (xs.getD i.toNat r.dflt))
    | _ => fail
  | _ => fail

/-- A slice that is read: its rows; an own one is never written again. -/
def sliceOf (x : C) : M (Sigma (fun r : Ty => List r.den) × List (Nat × Ob)) := match x with
  | .v (.slice r) xs => M.pure (⟨r, xs⟩, [])
  | .arr id => M.bind (rdO id) fun
    | some (.arr _ r xs) => M.pure (⟨r, xs⟩, [(id, .imm r xs)])
    | some (.imm r xs) => M.pure (⟨r, xs⟩, [])
    | _ => fail
  | _ => fail

/-- The same, to look at alone. -/
def rowsOf (x : C) : M (Option (Sigma (fun r : Ty => List r.den))) := match x with
  | .v (.slice r) xs => M.pure (some ⟨r, xs⟩)
  | .emp => M.pure none
  | .arr id => M.bind (rdO id) fun
    | some (.arr _ r xs) => M.pure (some ⟨r, xs⟩)
    | some (.imm r xs) => M.pure (some ⟨r, xs⟩)
    | _ => fail
  | _ => fail

def optInt (x : Option Operand) (d : Int) : M Int := match x with
  | none => M.pure d
  | some o => M.bind (opC o) fun
    | .v (.int _) n => M.pure n
    | _ => fail

def sliceStep (sl : Bool) (td : TD) (x : Operand) (lo hi mx : Option Operand) : M Upd := M.bind (guardB mx.isNone) fun _ => M.bind (opC x) fun
  | .v .str s => M.bind (guardB !sl) fun _ => M.bind (optInt lo 0) fun l => M.bind (optInt hi s.length) fun h => M.bind (guardB (decide (0 ≤ l))) fun _ => M.bind (guardB (decide (l ≤ h))) fun _ => M.bind (guardB (decide (h ≤ (s.length : Int)))) fun _ =>
      M.pure ⟨.w (.one (.v .str ((s.take h.toNat).drop l.toNat))), []⟩
  | x => M.bind (guardB sl) fun _ => M.bind (sliceOf x) fun p => M.bind (guardB (Nat.beq p.1.1.sz td.sz)) fun _ => M.bind (optInt lo 0) fun l => M.bind (optInt hi p.1.2.length) fun h => M.bind (guardB (decide (0 ≤ l))) fun _ => M.bind (guardB (decide (l ≤ h))) fun _ =>
      M.bind (guardB (decide (h ≤ (p.1.2.length : Int)))) fun _ => M.pure ⟨.w (.one (.v (.slice p.1.1) ((p.1.2.take h.toNat).drop l.toNat))), p.2⟩

def indexStep (x i : Operand) : M Upd := M.bind (opC x) fun
  | .v .str s => M.bind (opC i) fun
    | .v (.int _) n => M.bind (inRange n s.length) fun _ => M.pure ⟨.w (.one (.v (.int .u8) ((s.getD n.toNat 0).toNat : Int))), []⟩
    | _ => fail
  | _ => fail

def lenStep (sl : Bool) (x : Operand) : M Upd := M.bind (opC x) fun
  | .v .str s => M.bind (guardB !sl) fun _ => M.pure ⟨.w (.one (.v (.int .i64) (s.length : Int))), []⟩
  | x => M.bind (guardB sl) fun _ => M.bind (rowsOf x) fun
    | some p => M.pure ⟨.w (.one (.v (.int .i64) (p.2.length : Int))), []⟩
    | none => M.pure ⟨.w (.one (.v (.int .i64) (0 : Int))), []⟩

/-- append(x, y): x is the call's own (or has no room at all); y is read. -/
def appendStep (dst : Nat) (e : Nat) (td : TD) (x y : Operand) : M Upd := M.bind (opC x) fun cx => M.bind (opC y) fun cy => M.bind (rdO dst) fun o => M.bind (guardB o.isNone) fun _ => M.bind (rowsOf cy) fun py =>
  match cx with
  | .emp => M.bind (match py with | some p => ofOpt (castT (.slice td.ty) (.slice p.1) p.2) | none => M.pure []) fun ys => M.bind (guardB (decide (ys.length * td.bytes ≤ lim) && (Nat.ble 1 td.bytes && td.dat))) fun _ =>
      M.pure ⟨.w (.one (.arr dst)), [(dst, .arr e td.ty ys)]⟩
  | .arr id => M.bind (rdO id) fun
    | some (.arr e' r xs) => M.bind (match py with | some p => ofOpt (castT (.slice r) (.slice p.1) p.2) | none => M.pure []) fun ys => M.bind (guardB (Nat.beq e' e && Nat.beq r.sz td.sz)) fun _ =>
        M.bind (guardB (decide ((xs.length + ys.length) * td.bytes ≤ lim) && Nat.ble 1 td.bytes)) fun _ => M.pure ⟨.w (.one (.arr dst)), [(dst, .arr e r (xs ++ ys)), (id, .gone)]⟩
    | _ => fail
  | _ => fail

def makeStep (dst : Nat) (e : Nat) (td : TD) (l c : Operand) : M Upd := M.bind (opC l) fun cl => M.bind (opC c) fun cc => M.bind (rdO dst) fun o => M.bind (guardB o.isNone) fun _ =>
  match cl, cc with
  | .v (.int .i64) n, .v (.int .i64) m => M.bind (guardB (decide (n = m))) fun _ => M.bind (guardB (decide (0 ≤ n))) fun _ => M.bind (guardB (decide (n.toNat * td.bytes ≤ lim) && (Nat.ble 1 td.bytes && td.dat))) fun _ =>
      M.pure ⟨.w (.one (.arr dst)), [(dst, .arr e td.ty (List.replicate n.toNat td.ty.dflt))]⟩
  | _, _ => fail

def packAll (fz : Bool) (t : Ty) : List V1 → M (List t.den × List (Nat × Ob))
  | [] => M.pure ([], [])
  | v :: vs => M.bind (pack fz t v.cells) fun p => match p.2.1 with
    | [] => M.bind (packAll fz t vs) fun q => M.pure (p.1 :: q.1, q.2 ++ p.2.2)
    | _ => fail

def opVs : List Operand → M (List V1)
  | [] => M.pure []
  | x :: xs => M.bind (opV x) fun v => M.bind (opVs xs) fun vs => M.pure (v :: vs)

def inOrder : Nat → List (Nat × Operand) → Bool
  | _, [] => true
  | i, p :: ps => Nat.beq p.1 i && inOrder (i + 1) ps

def buildSliceStep (dst : Nat) (e : Nat) (td : TD) (len : Nat) (parts : List (Nat × Operand)) : M Upd :=
  M.bind (guardB (Nat.beq parts.length len && (inOrder 0 parts && (Nat.ble (len * td.sz) 16777216 && td.dat)))) fun _ => M.bind (opVs (parts.map (·.2))) fun vs => M.bind (guardB (vs.all fun v => v.cells.all C.known)) fun _ => M.bind (rdO dst) fun o => M.bind (guardB o.isNone) fun _ =>
    M.bind (packAll true td.ty vs) fun q => M.pure ⟨.w (.one (.arr dst)), (dst, .arr e td.ty q.1) :: q.2⟩

def fillC (flds : List (Nat × Nat)) (TT : Nat → Option TD) : List C → List (Nat × V1) → Option (List C)
  | cs, [] => some cs
  | cs, (j, v) :: ps => match flds[j]? with
    | some f => match TT f.1 with
      | some td => bif Nat.beq v.cells.length td.sz && Nat.ble (f.2 + td.sz) cs.length && v.cells.all C.known then fillC flds TT (splice cs f.2 v.cells) ps else none
      | none => none
    | none => none

def intOp (op : BinOp) (k : IntKind) (x y : Int) : Option C := match op with
  | .add => some (.v (.int k) (k.wrap (x + y)))
  | .sub => some (.v (.int k) (k.wrap (x - y)))
  | .mul => some (.v (.int k) (k.wrap (x * y)))
  | .eql => some (.v .bool (x == y))
  | .neq => some (.v .bool (x != y))
  | .lss => some (.v .bool (decide (x < y)))
  | .leq => some (.v .bool (decide (x ≤ y)))
  | .gtr => some (.v .bool (decide (x > y)))
  | .geq => some (.v .bool (decide (x ≥ y)))
  | .xor => some (.v (.int k) (k.wrap (BitVec.ofInt k.bits x ^^^ BitVec.ofInt k.bits y).toNat))
  | _ => none

/-- Cells held against each other, one by one. -/
def eqCells : List Ty → List C → List C → Option Bool
  | [], [], [] => some true
  | .bool :: ts, .v .bool x :: cs, .v .bool y :: ds => (eqCells ts cs ds).map fun b => (x == y) && b
  | .int k :: ts, .v (.int i) x :: cs, .v (.int j) y :: ds => bif decide (i = k) && decide (j = k) then (eqCells ts cs ds).map fun b => (x == y) && b else none
  | .str :: ts, .v .str x :: cs, .v .str y :: ds => (eqCells ts cs ds).map fun b => (x == y) && b
  | _, _, _ => none

def binStep (op : BinOp) (t : Nat) (x y : Operand) : M Upd := M.bind (opV x) fun vx => M.bind (opV y) fun vy =>
  match vx, vy with
  | .one (.v (.int j) a), .one (.v (.int k) b) => M.bind (guardB (decide (j = k))) fun _ => match op with
    | .quo => M.bind (guardB (!decide (b = 0))) fun _ => M.pure ⟨.w (.one (.v (.int j) (j.wrap (a.tdiv b)))), []⟩
    | .rem => M.bind (guardB (!decide (b = 0))) fun _ => M.pure ⟨.w (.one (.v (.int j) (a.tmod b))), []⟩
    | op => M.bind (ofOpt (intOp op j a b)) fun c => M.pure ⟨.w (.one c), []⟩
  | .one (.v .str a), .one (.v .str b) => match op with
    | .add => M.bind (guardB (decide (a.length + b.length ≤ lim))) fun _ => M.pure ⟨.w (.one (.v .str (a ++ b))), []⟩
    | .eql => M.pure ⟨.w (.one (.v .bool (a == b))), []⟩
    | .neq => M.pure ⟨.w (.one (.v .bool !(a == b))), []⟩
    | .lss => M.pure ⟨.w (.one (.v .bool (Op.bytesLess a b))), []⟩
    | .leq => M.pure ⟨.w (.one (.v .bool (Op.bytesLess a b || a == b))), []⟩
    | .gtr => M.pure ⟨.w (.one (.v .bool !(Op.bytesLess a b || a == b))), []⟩
    | .geq => M.pure ⟨.w (.one (.v .bool !(Op.bytesLess a b))), []⟩
    | _ => fail
  | .one (.v .bool a), .one (.v .bool b) => M.bind (ofOpt (TT t)) fun td => match td.ty, op with
    | .bool, .eql => M.pure ⟨.w (.one (.v .bool (a == b))), []⟩
    | .bool, .neq => M.pure ⟨.w (.one (.v .bool !(a == b))), []⟩
    | _, _ => fail
  | .agg as, .agg bs => M.bind (ofOpt (TT t)) fun td => M.bind (guardB (!td.eqs.isEmpty)) fun _ => M.bind (ofOpt (eqCells td.eqs as bs)) fun b => match op with
    | .eql => M.pure ⟨.w (.one (.v .bool b)), []⟩
    | .neq => M.pure ⟨.w (.one (.v .bool !b)), []⟩
    | _ => fail
  | _, _ => fail

def unStep (op : UnOp) (x : Operand) : M Upd := M.bind (opC x) fun
  | .v .bool b => match op with
    | .not => M.pure ⟨.w (.one (.v .bool !b)), []⟩
    | _ => fail
  | .v (.int k) n => match op with
    | .neg => M.pure ⟨.w (.one (.v (.int k) (k.wrap (0 - n)))), []⟩
    | _ => fail
  | _ => fail

def byteOf (n : Int) : UInt8 := UInt8.ofNat n.toNat

def convStep (src dst : Nat) (x : Operand) : M Upd := M.bind (ofOpt (TT src)) fun tds => M.bind (ofOpt (TT dst)) fun tdd => M.bind (opC x) fun c =>
  match tds.ty, tdd.ty, c with
  | .int _, .int k, .v (.int _) n => M.pure ⟨.w (.one (.v (.int k) (k.wrap n))), []⟩
  | .slice (.int .u8), .str, c => M.bind (ofOpt (TT tds.elem)) fun te => M.bind (rowsOf c) fun
    | some ⟨.int .u8, xs⟩ => match te.ty with
      | .int .u8 => M.pure ⟨.w (.one (.v .str (xs.map byteOf))), []⟩
      | _ => fail
    | none => match te.ty with
      | .int .u8 => M.pure ⟨.w (.one (.v .str [])), []⟩
      | _ => fail
    | _ => fail
  | _, _, _ => fail

/-- The data of a call's arguments; the boxes that are handed over. -/
def args1 (fz : Bool) : List PS → List AV → M (List Dv × List (Nat × Ty) × List (Nat × Ob))
  | [], [] => M.pure ([], [], [])
  | .d t agg :: ps, .w v :: vs => match agg, v with
    | true, .agg cs => M.bind (pack fz t cs) fun q => match q.2.1 with
      | [] => M.bind (args1 fz ps vs) fun z => M.pure (⟨t, q.1⟩ :: z.1, z.2.1, z.2.2 ++ q.2.2)
      | _ => fail
    | false, .one c => M.bind (pack fz t [c]) fun q => match q.2.1 with
      | [] => M.bind (args1 fz ps vs) fun z => M.pure (⟨t, q.1⟩ :: z.1, z.2.1, z.2.2 ++ q.2.2)
      | _ => fail
    | _, _ => fail
  | .bx t :: ps, .w (.one (.pb id 0)) :: vs => M.bind (rdO id) fun
    | some (.box cs) => M.bind (pack fz t cs) fun q => match q.2.1 with
      | [] => M.bind (args1 fz ps vs) fun z => M.pure (⟨t, q.1⟩ :: z.1, (id, t) :: z.2.1, z.2.2 ++ q.2.2)
      | _ => fail
    | _ => fail
  | _, _ => fail

/-- Own results: each slice is an array that may be written. -/
def ownC : (t : Ty) → t.den → (es : List Nat) → (id : Nat) → List C × List (Nat × Ob) × List Nat × Nat
  | .pair a b, x, es, id => let p := ownC a x.1 es id; let q := ownC b x.2 p.2.2.1 p.2.2.2; (p.1 ++ q.1, q.2.1 ++ p.2.1, q.2.2.1, q.2.2.2)
  | .slice r, x, e :: es, id => ([.arr id], [(id, .arr e r x)], es, id + 1)
  | t, x, es, id => (unpack t x, [], es, id)

def results1 : List RS → List Dv → Nat → Option (List V1 × List (Nat × Ob) × List Dv × Nat)
  | [], ds, id => some ([], [], ds, id)
  | .any :: rs, ds, id => match results1 rs ds id with
    | some z => some (.one .u :: z.1, z.2)
    | none => none
  | .d t agg :: rs, d :: ds, id => match castT t d.1 d.2, results1 rs ds id with
    | some x, some z => some (asV agg t x :: z.1, z.2)
    | _, _ => none
  | .own t agg es :: rs, d :: ds, id => match castT t d.1 d.2 with
    | some x => match ownC t x es id with
      | (cs, obs, _, id') => match results1 rs ds id', agg, cs with
        | some z, true, cs => some (.agg cs :: z.1, z.2.1 ++ obs, z.2.2)
        | some z, false, [c] => some (.one c :: z.1, z.2.1 ++ obs, z.2.2)
        | _, _, _ => none
    | none => none
  | _, _, _ => none

def boxes1 : List (Nat × Ty) → List Dv → Option (List (Nat × Ob))
  | [], [] => some []
  | (id, t) :: bs, d :: ds => match castT t d.1 d.2, boxes1 bs ds with
    | some x, some z => some ((id, .box (unpack t x)) :: z)
    | _, _ => none
  | _, _ => none

def tupV : List V1 → AV
  | [v] => .w v
  | vs => .tup vs

/-- The first number of what a call makes. -/
def callId (dst : Nat) : Nat := 1000 + 64 * dst

def freshAll : List (Nat × Ob) → M Unit
  | [] => M.pure ()
  | p :: ps => M.bind (rdO p.1) fun o => M.bind (guardB o.isNone) fun _ => freshAll ps

def Ty.flat : Ty → Bool
  | .slice _ => false
  | .pair a b => a.flat && b.flat
  | _ => true
def RS.flat : RS → Bool
  | .d t _ | .own t _ _ => t.flat
  | .any => true
def nodupN' : List Nat → Bool
  | [] => true
  | i :: l => !(l.any fun j => Nat.beq j i) && nodupN' l

def capC (id : Nat) : AV := .w (.one (.pb id 0))

/-- A function value of known text stands for the boxes that it has caught. -/
def flatP : List PS → List PS
  | [] => []
  | .cl _ ts :: ps => ts.map PS.bx ++ flatP ps
  | .d t a :: ps => .d t a :: flatP ps
  | .bx t :: ps => .bx t :: flatP ps
def flatA : List PS → List AV → Option (List AV)
  | [], [] => some []
  | .cl g ts :: ps, v :: vs => match v with
    | .w (.one (.fn g' caps)) => bif Nat.beq g' g && Nat.beq caps.length ts.length then match flatA ps vs with
      | some z => some (caps.map capC ++ z)
      | none => none else none
    | _ => none
  | .d _ _ :: ps, v :: vs => match flatA ps vs with
    | some z => some (v :: z)
    | none => none
  | .bx _ :: ps, v :: vs => match flatA ps vs with
    | some z => some (v :: z)
    | none => none
  | _, _ => none

/-- Under which number a call's summary is looked up: the function's, and that of the first function value handed over. -/
def keyOf (g : Nat) : List AV → Nat
  | [] => g
  | v :: vs => match v with
    | .w (.one (.fn c _)) => g + 100000 * (c + 1)
    | _ => keyOf g vs
def phiK (Φ : Nat → Option Summ) (g : Nat) (vs : List AV) : Option Summ := bif Nat.blt g 100000 then Φ (keyOf g vs) else none

def summStep (s : Summ) (dst : Nat) (vs : List AV) : M Upd := M.bind (ofOpt (flatA s.ps vs)) fun vs => M.bind (args1 s.fz (flatP s.ps) vs) fun z => M.bind (guardB (s.pre z.1)) fun _ => M.bind (guardB ((s.fz || (s.rs.all RS.flat && z.2.1.isEmpty)) && nodupN' (z.2.1.map (·.1)))) fun _ =>
  M.bind (ofOpt (results1 s.rs (s.out z.1) (callId dst))) fun r => M.bind (guardB (nodupN' (r.2.1.map (·.1)))) fun _ => M.bind (ofOpt (boxes1 z.2.1 r.2.2.1)) fun b => M.bind (freshAll r.2.1) fun _ =>
    M.pure ⟨tupV r.1, b ++ (r.2.1 ++ z.2.2)⟩

def opAs : List Operand → M (List AV)
  | [] => M.pure []
  | x :: xs => M.bind (opd x) fun v => M.bind (opAs xs) fun vs => M.pure (v :: vs)

/-- Who is called, and with what. -/
def calleeOf (f : Operand) (args : List Operand) : M (Nat × List AV) := M.bind (opC f) fun
  | .fn g caps => M.bind (opAs args) fun vs => M.pure (g, vs ++ caps.map capC)
  | _ => fail

def pbIds : List Operand → M (List Nat)
  | [] => M.pure []
  | x :: xs => M.bind (opC x) fun
    | .pb id 0 => M.bind (pbIds xs) fun l => M.pure (id :: l)
    | _ => fail

def val (c : C) : M Upd := M.pure ⟨.w (.one c), []⟩

def dstOf : Option Nat → M Nat
  | some d => M.pure d
  | none => fail

def elemOf (td : TD) : M TD := match td.ty with
  | .slice _ => ofOpt (TT td.elem)
  | _ => fail

/-- One operation (a call that is entered has its own way). -/
def step (o : Oper) : M Upd := match o.op with
  | .move x | .assign x => M.bind (opd x) fun v => M.pure ⟨v, []⟩
  | .pick c a b => M.bind (opC c) fun
    | .v .bool t => iteB t (M.bind (opd a) fun v => M.pure ⟨v, []⟩) (M.bind (opd b) fun v => M.pure ⟨v, []⟩)
    | _ => fail
  | .alloc t => M.bind (dstOf o.dst) fun d => M.bind (ofOpt (TT t)) fun td => M.bind (rdO d) fun ob => M.bind (guardB ob.isNone) fun _ => M.pure ⟨.w (.one (.pb d 0)), [(d, .box td.zero)]⟩
  | .box t x => M.bind (dstOf o.dst) fun d => M.bind (opV x) fun v => M.bind (guardB (v.cells.all C.known)) fun _ => M.bind (rdO d) fun ob => M.bind (guardB ob.isNone) fun _ => M.pure ⟨.w (.one (.pb d 0)), [(d, .box v.cells)]⟩
  | .build t parts => M.bind (ofOpt (TT t)) fun td => M.bind (guardB td.agg) fun _ => M.bind (opVs (parts.toList.map (·.2))) fun vs => M.bind (ofOpt (fillC td.flds TT td.zero ((parts.toList.map (·.1)).zip vs))) fun cs => M.pure ⟨.w (.agg cs), []⟩
  | .buildSlice t len parts => M.bind (dstOf o.dst) fun d => M.bind (ofOpt (TT t)) fun td => M.bind (elemOf TT td) fun te => buildSliceStep d td.elem te len parts.toList
  | .load t a => M.bind (ofOpt (TT t)) fun td => M.bind (opC a) fun p => M.bind (loadAt td p) fun v => M.pure ⟨.w v, []⟩
  | .store t a x => M.bind (ofOpt (TT t)) fun td => M.bind (opC a) fun p => M.bind (opV x) fun v => storeAt td p v
  | .nilCheck x => M.bind (opC x) fun
    | .pb id off => val (.pb id off)
    | .pd t d => val (.pd t d)
    | .pa id j p => val (.pa id j p)
    | _ => fail
  | .binOp op t x y _ => binStep TT op t x y
  | .unOp op _ x => unStep op x
  | .convert s d x => convStep TT s d x
  | .makeFunc (.func g) first caps => M.bind (guardB first.isEmpty) fun _ => M.bind (pbIds caps.toList) fun l => val (.fn g l)
  | .makeSlice t l c => M.bind (dstOf o.dst) fun d => M.bind (ofOpt (TT t)) fun td => M.bind (elemOf TT td) fun te => makeStep d td.elem te l c
  | .slice t x lo hi mx => M.bind (ofOpt (TT t)) fun td => match td.ty with
    | .slice _ => M.bind (ofOpt (TT td.elem)) fun te => sliceStep true te x lo hi mx
    | .str => sliceStep false td x lo hi mx
    | _ => fail
  | .fieldAddr t x j => M.bind (ofOpt (TT t)) fun td => M.bind (opC x) fun p => M.bind (fieldAddrAt td p j) val
  | .field t x j => M.bind (ofOpt (TT t)) fun td => M.bind (opV x) fun
    | .agg cs => M.bind (ofOpt td.flds[j]?) fun f => M.bind (ofOpt (TT f.1)) fun tf => M.bind (guardB (Nat.ble (f.2 + tf.sz) cs.length)) fun _ => match tf.agg, (cs.drop f.2).take tf.sz with
      | true, l => M.pure ⟨.w (.agg l), []⟩
      | false, [c] => val c
      | false, _ => fail
    | _ => fail
  | .indexAddr t x i => M.bind (ofOpt (TT t)) fun td => M.bind (elemOf TT td) fun te => M.bind (opC x) fun cx => M.bind (opC i) fun
    | .v (.int _) n => M.bind (indexAddrAt te cx n) val
    | _ => fail
  | .index t x i => M.bind (ofOpt (TT t)) fun td => match td.ty with
    | .str => indexStep x i
    | _ => fail
  | .extract x j => M.bind (opd x) fun
    | .tup vs => M.bind (ofOpt vs[j]?) fun v => M.pure ⟨.w v, []⟩
    | _ => fail
  | .call { callee := .builtin .len, args := a, argTypes := ts } => match a.toList, ts.toList with
    | [x], [t] => M.bind (ofOpt (TT t)) fun td => match td.ty with
      | .slice _ => lenStep true x
      | .str => lenStep false x
      | _ => fail
    | _, _ => fail
  | .call { callee := .builtin .append, args := a, argTypes := ts } => match a.toList, ts.toList with
    | [x, y], [t, t'] => M.bind (guardB (Nat.beq t t')) fun _ => M.bind (dstOf o.dst) fun d => M.bind (ofOpt (TT t)) fun td => M.bind (elemOf TT td) fun te => appendStep d td.elem te x y
    | _, _ => fail
  | .call { callee := .value f, args := a, .. } => M.bind (calleeOf f a.toList) fun ga => M.bind (ofOpt (phiK Φ ga.1 ga.2)) fun s => summStep s (o.dst.getD 0) ga.2
  | _ => fail

end ops
end Go.MC

/- The interpreter: regions, control, loops, functions. No program in sight. -/
set_option linter.unusedVariables false
set_option linter.unusedSimpArgs false
namespace Go.MC
open Go.RowKit

inductive X where
  | nrm
  | ex (id : Nat)
  | rt

def setS (S : St) (i : Nat) (v : AV) : St := ⟨(i, v) :: S.fr, S.H⟩
def putF (dst : Option Nat) (v : AV) (fr : List (Nat × AV)) : List (Nat × AV) := match dst with
  | some d => (d, v) :: fr
  | none => fr
def app (dst : Option Nat) (U : Upd) (S : St) : St := ⟨putF dst U.val S.fr, U.obs ++ S.H⟩
/-- What an operation that is passed over leaves in its slot. -/
def unk : Upd := ⟨.w (.one .nd), []⟩
def bV (b : Bool) : AV := .w (.one (.v .bool b))

/-- A slot's Bool, decided: from there on it is a literal. -/
def onBool {ρ : Type} (S : St) (i : Nat) (kt kf : St → Option ρ) : Option ρ := match lkF S.fr i with
  | .w (.one (.v .bool b)) => bif b then kt (setS S i (bV true)) else kf (setS S i (bV false))
  | _ => none

/-- The same of a guard: where it was itself passed over, so is what it guards. -/
def onBool3 {ρ : Type} (S : St) (i : Nat) (kt kf kn : St → Option ρ) : Option ρ := match lkF S.fr i with
  | .w (.one (.v .bool b)) => bif b then kt (setS S i (bV true)) else kf (setS S i (bV false))
  | .w (.one .nd) => kn S
  | _ => none

/-- How a slot, a box's cell is kept at a loop's head. -/
inductive Dir where
  | keep
  | own (n e : Nat) (r : Ty)
  | frz (r : Ty)
  | drop

structure Norm where
  fr : List (Nat × Dir)
  bx : List (Nat × List Dir)
  os : List Nat

structure Ann where
  hd : Norm
  exs : List (Nat × Norm)
  rt : Norm

structure Env where
  TT : Nat → Option TD
  Φ : Nat → Option Summ
  inl : (ρ : Type) → Nat → List AV → List (Nat × Ob) → (AV → List (Nat × Ob) → Option ρ) → Option ρ
  an : Nat → Option Ann
  ent : List Nat
  N : Nat

def memN : Nat → List Nat → Bool
  | _, [] => false
  | i, j :: l => Nat.beq j i || memN i l
def nodupN : List Nat → Bool
  | [] => true
  | i :: l => !memN i l && nodupN l
def disjN : List Nat → List Nat → Bool
  | [], _ => true
  | i :: l, m => !memN i m && disjN l m
def subN : List Nat → List Nat → Bool
  | [], _ => true
  | i :: l, m => memN i m && subN l m

def C.refs : C → List Nat
  | .arr id | .pb id _ | .pa id _ _ => [id]
  | .fn _ caps => caps
  | _ => []
def V1.refs (v : V1) : List Nat := v.cells.flatMap C.refs
def AV.refs : AV → List Nat
  | .w v => v.refs
  | .tup vs => vs.flatMap V1.refs

/-- A cell as it is kept: the cell, what was taken out of H, what comes into it. -/
def normC (ids : List Nat) (H : List (Nat × Ob)) : Dir → C → Option (C × List Nat × List (Nat × Ob))
  | .keep, c => bif subN c.refs ids then some (c, [], []) else none
  | .own n e r, .emp => some (.arr n, [], [(n, .arr e r [])])
  | .own n e r, .arr id => match lkH H id with
    | some (.arr e' r' xs) => bif Nat.beq e' e && decide (r' = r) then some (.arr n, [id], [(n, .arr e' r' xs)]) else none
    | _ => none
  | .frz r, .emp => some (.v (.slice r) [], [], [])
  | .frz r, .v t x => some (.v t x, [], [])
  | .frz r, .arr id => match lkH H id with
    | some (.arr _ r' xs) => some (.v (.slice r') xs, [id], [])
    | some (.imm r' xs) => some (.v (.slice r') xs, [], [])
    | _ => none
  | .drop, _ => some (.u, [], [])
  | _, _ => none
def normCs (ids : List Nat) (H : List (Nat × Ob)) : List Dir → List C → Option (List C × List Nat × List (Nat × Ob))
  | [], [] => some ([], [], [])
  | d :: ds, c :: cs => match normC ids H d c, normCs ids H ds cs with
    | some p, some q => some (p.1 :: q.1, p.2.1 ++ q.2.1, p.2.2 ++ q.2.2)
    | _, _ => none
  | _, _ => none
def normF (ids : List Nat) (S : St) : List (Nat × Dir) → Option (List (Nat × AV) × List Nat × List (Nat × Ob))
  | [] => some ([], [], [])
  | (i, .keep) :: l => bif subN (lkF S.fr i).refs ids then match normF ids S l with
    | some q => some ((i, lkF S.fr i) :: q.1, q.2)
    | none => none else none
  | (i, d) :: l => match lkF S.fr i with
    | .w (.one c) => match normC ids S.H d c, normF ids S l with
      | some p, some q => some ((i, .w (.one p.1)) :: q.1, p.2.1 ++ q.2.1, p.2.2 ++ q.2.2)
      | _, _ => none
    | _ => none
def normB (ids : List Nat) (S : St) : List (Nat × List Dir) → Option (List (Nat × Ob) × List Nat × List (Nat × Ob))
  | [] => some ([], [], [])
  | (i, ds) :: l => match lkH S.H i with
    | some (.box cs) => match normCs ids S.H ds cs, normB ids S l with
      | some p, some q => some ((i, .box p.1) :: q.1, p.2.1 ++ q.2.1, p.2.2 ++ q.2.2)
      | _, _ => none
    | _ => none
def normO (H : List (Nat × Ob)) : List Nat → Option (List (Nat × Ob))
  | [] => some []
  | i :: l => match lkH H i, normO H l with
    | some (.arr e r xs), some q => some ((i, .arr e r xs) :: q)
    | some (.imm r xs), some q => some ((i, .imm r xs) :: q)
    | some .gone, some q => some ((i, .gone) :: q)
    | _, _ => none
/-- A state with nothing in it but what is kept; own arrays under their new numbers. -/
def normS (ent : List Nat) (sp : Norm) (S : St) : Option St :=
  let ids := sp.bx.map (·.1) ++ sp.os
  match normF ids S sp.fr, normB ids S sp.bx, normO S.H sp.os with
  | some f, some b, some o =>
    let taken := f.2.1 ++ b.2.1
    let new := f.2.2 ++ b.2.2
    bif subN ent ids && nodupN (taken ++ ids) && nodupN (new.map (·.1) ++ ids) then some ⟨f.1, b.1 ++ (o ++ new)⟩ else none
  | _, _, _ => none

def afterM (ms : List Nat) (o : Oper) : Nat := o.after.toList.foldl (fun m e => bif Region.binds .any e then m ||| (1 <<< e.on) ||| ms.getD e.on 0 else m) 0
/-- Of each operation: which must come before it. -/
def masks : List Oper → List Nat → List Nat
  | [], ms => ms
  | o :: os, ms => masks os (ms ++ [afterM ms o])

def keysW (dst : Option Nat) (U : Upd) : List Nat := (match dst with | some d => [2 * d] | none => []) ++ U.obs.map fun p => 2 * p.1 + 1
def okPair (m : Nat) (R W : List Nat) (p : Nat × List Nat × List Nat) : Bool := Nat.testBit m p.1 || (disjN p.2.2 R && disjN p.2.2 W && disjN p.2.1 W)

section code
variable (E : Env)

def runOp {ρ : Type} (o : Oper) (S : St) (k : St → Option ρ) : Option ρ := match o.op with
  | .call { callee := .value f, args := a, .. } => calleeOf f a.toList ρ S [] fun ga _ => match phiK E.Φ ga.1 ga.2 with
    | some s => summStep s (o.dst.getD 0) ga.2 ρ S [] fun U _ => k (app o.dst U S)
    | none => E.inl ρ ga.1 ga.2 S.H fun v H => k ⟨putF o.dst v S.fr, H⟩
  | _ => step E.TT E.Φ o ρ S [] fun U _ => k (app o.dst U S)

def guardSlot (all : List Oper) (j : Nat) : Option Nat := (all[j]?).bind (·.dst)

def runOps {ρ : Type} (all : List Oper) : List Oper → St → (St → Option ρ) → Option ρ
  | [], S, k => k S
  | o :: rest, S, k => match o.guard with
    | none => runOp E o S fun S' => runOps all rest S' k
    | some (j, want) => match guardSlot all j with
      | some s => bif want then onBool3 S s (fun S => runOp E o S fun S' => runOps all rest S' k) (fun S => runOps all rest (app o.dst unk S) k) (fun S => runOps all rest (app o.dst unk S) k)
        else onBool3 S s (fun S => runOps all rest (app o.dst unk S) k) (fun S => runOp E o S fun S' => runOps all rest S' k) (fun S => runOps all rest (app o.dst unk S) k)
      | none => none

def runDraw {ρ : Type} (all : List Oper) (ms : List Nat) : Nat → List Oper → List (Nat × List Nat × List Nat) → St → (St → Option ρ) → Option ρ
  | _, [], _, S, k => k S
  | i, o :: rest, acc, S, k =>
    let go : St → List Nat → Option ρ := fun S L => step E.TT E.Φ o ρ S L fun U R =>
      bif acc.all (okPair (ms.getD i 0) R (keysW o.dst U)) then runDraw all ms (i + 1) rest ((i, R, keysW o.dst U) :: acc) (app o.dst U S) k else none
    let skip : St → List Nat → Option ρ := fun S R =>
      bif acc.all (okPair (ms.getD i 0) R (keysW o.dst unk)) then runDraw all ms (i + 1) rest ((i, R, keysW o.dst unk) :: acc) (app o.dst unk S) k else none
    match o.guard with
    | none => go S []
    | some (j, want) => match guardSlot all j with
      | some s => bif want then onBool3 S s (fun S => go S [2 * s]) (fun S => skip S [2 * s]) (fun S => skip S [2 * s]) else onBool3 S s (fun S => skip S [2 * s]) (fun S => go S [2 * s]) (fun S => skip S [2 * s])
      | none => none

def normK {ρ : Type} (ent : List Nat) (sp : Norm) (S : St) (k : St → Option ρ) : Option ρ := match normS ent sp S with
  | some S' => k S'
  | none => none

def exNorm (id : Nat) : List (Nat × Norm) → Option Norm
  | [] => none
  | (j, n) :: l => bif Nat.beq j id then some n else exNorm id l

/-- Behind a round: the next one, or out. -/
def kLoop {ρ : Type} (ent : List Nat) (an : Ann) (next : St → Option ρ) (k : X → St → Option ρ) : X → St → Option ρ
  | .nrm, S => normK ent an.hd S next
  | .ex id, S => match exNorm id an.exs with
    | some sp => normK ent sp S (k (.ex id))
    | none => none
  | .rt, S => normK ent an.rt S (k .rt)

def iter {ρ : Type} (ent : List Nat) (an : Ann) (f : St → (X → St → Option ρ) → Option ρ) : Nat → St → (X → St → Option ρ) → Option ρ
  | 0, _, _ => none
  | n + 1, S, k => f S (kLoop ent an (fun S' => iter ent an f n S' k) k)

def kBlk {ρ : Type} (id : Nat) (k : X → St → Option ρ) : X → St → Option ρ
  | .ex j, S => bif Nat.beq j id then k .nrm S else k (.ex j) S
  | x, S => k x S

def kSeq {ρ : Type} (f : St → (X → St → Option ρ) → Option ρ) (k : X → St → Option ρ) : X → St → Option ρ
  | .nrm, S => f S k
  | x, S => k x S

def code {ρ : Type} : Code → Nat → St → (X → St → Option ρ) → Option ρ
  | .skip, _, S, k => k .nrm S
  | .region _ ops draw, _, S, k => match draw with
    | false => runOps E ops.toList ops.toList S (k .nrm)
    | true => runDraw E ops.toList (masks ops.toList []) 0 ops.toList [] S (k .nrm)
  | .seq a b, blk, S, k => code a blk S (kSeq (code b blk) k)
  | .cond c a b, blk, S, k => match c with
    | .tmp t => onBool S t (fun S => code a blk S k) (fun S => code b blk S k)
    | .const (.bool t) => bif t then code a blk S k else code b blk S k
    | _ => none
  | .block id c, _, S, k => code c id S (kBlk id k)
  | .loop c, blk, S, k => match E.an blk with
    | some an => normK E.ent an.hd S fun S' => iter E.ent an (code c blk) E.N S' k
    | none => none
  | .exit id, _, S, k => k (.ex id) S
  | .ret, _, S, k => k .rt S
  | _, _, _, _ => none

end code

/-- A result out of its slot. -/
def getRes (TT : Nat → Option TD) (S : St) : ResultVar → Option V1
  | .tmp t => match lkF S.fr t with
    | .w v => some v
    | .tup _ => none
  | .cell t T => match lkF S.fr t, TT T with
    | .w (.one (.pb id 0)), some td => match lkH S.H id, td.agg with
      | some (.box cs), true => bif Nat.beq cs.length td.sz then some (.agg cs) else none
      | some (.box [c]), false => bif Nat.beq 1 td.sz then some (.one c) else none
      | _, _ => none
    | _, _ => none
def getRess (TT : Nat → Option TD) (S : St) : List ResultVar → Option (List V1)
  | [] => some []
  | r :: rs => match getRes TT S r, getRess TT S rs with
    | some v, some vs => some (v :: vs)
    | _, _ => none

def slots : Nat → List AV → List (Nat × AV)
  | _, [] => []
  | i, v :: vs => (i, v) :: slots (i + 1) vs

def kFun {ρ : Type} (TT : Nat → Option TD) (rs : List ResultVar) (k : AV → List (Nat × Ob) → Option ρ) : X → St → Option ρ
  | .ex _, _ => none
  | _, S => match getRess TT S rs with
    | some vs => k (tupV vs) S.H
    | none => none

/-- What a function's text is, told by the dump; its loops' notes. -/
structure FI where
  res : List ResultVar
  body : Code
  ntmps : Nat
  an : Nat → Option Ann

def runF {ρ : Type} (TT : Nat → Option TD) (Φ : Nat → Option Summ) (inl : (ρ : Type) → Nat → List AV → List (Nat × Ob) → (AV → List (Nat × Ob) → Option ρ) → Option ρ) (N : Nat) (f : FI)
    (vs : List AV) (H : List (Nat × Ob)) (k : AV → List (Nat × Ob) → Option ρ) : Option ρ :=
  code { TT := TT, Φ := Φ, inl := inl, an := f.an, ent := H.map (·.1), N := N } f.body 0 ⟨slots 0 vs, H⟩ (kFun TT f.res k)

/-- Functions that are entered, to a depth. -/
def inlD (TT : Nat → Option TD) (Φ : Nat → Option Summ) (F : Nat → Option FI) (N : Nat) : Nat → (ρ : Type) → Nat → List AV → List (Nat × Ob) → (AV → List (Nat × Ob) → Option ρ) → Option ρ
  | 0 => fun _ _ _ _ _ => none
  | d + 1 => fun ρ g vs H k => match F g with
    | some f => bif Nat.ble vs.length f.ntmps then runF TT Φ (inlD TT Φ F N d) N f vs H k else none
    | none => none

/-- The data of a function's results, and of the boxes that it was handed. -/
def extC (H : List (Nat × Ob)) : (t : Ty) → List C → (es : List Nat) → Option (t.den × List C × List Nat × List Nat)
  | .pair a b, cs, es => match extC H a cs es with
    | some p => match extC H b p.2.1 p.2.2.1 with
      | some q => some ((p.1, q.1), q.2.1, q.2.2.1, p.2.2.2 ++ q.2.2.2)
      | none => none
    | none => none
  | .slice r, .arr id :: cs, e :: es => match lkH H id with
    | some (.arr e' r' xs) => match castT (.slice r) (.slice r') xs with
      | some x => bif Nat.beq e' e then some (x, cs, es, [id]) else none
      | none => none
    | _ => none
  | .slice r, .emp :: cs, e :: es => some ([], cs, es, [])
  | .slice _, _, _ => none
  | t, .v t' x :: cs, es => match castT t t' x with
    | some x => some (x, cs, es, [])
    | none => none
  | _, _, _ => none
def ext1 (H : List (Nat × Ob)) : List RS → List V1 → Option (List Dv × List Nat × List Nat)
  | [], [] => some ([], [], [])
  | .any :: rs, _ :: vs => ext1 H rs vs
  | .d t agg :: rs, v :: vs => match agg, v with
    | true, .one _ => none
    | false, .agg _ => none
    | _, v => match pack true t v.cells (t.den × List C × List Nat) ⟨[], H⟩ [] (fun p _ => some (p.1, p.2.1, p.2.2.map (·.1))), ext1 H rs vs with
      | some (x, [], l), some z => some (⟨t, x⟩ :: z.1, z.2.1, l ++ z.2.2)
      | _, _ => none
  | .own t agg es :: rs, v :: vs => match agg, v with
    | true, .one _ => none
    | false, .agg _ => none
    | _, v => match extC H t v.cells es, ext1 H rs vs with
      | some (x, [], [], ids), some z => some (⟨t, x⟩ :: z.1, ids ++ z.2.1, z.2.2)
      | _, _ => none
  | _, _ => none
def extB (H : List (Nat × Ob)) : List (Nat × Ty) → Option (List Dv × List Nat)
  | [] => some ([], [])
  | (id, t) :: l => match lkH H id with
    | some (.box cs) => match pack true t cs (t.den × List C × List Nat) ⟨[], H⟩ [] (fun p _ => some (p.1, p.2.1, p.2.2.map (·.1))), extB H l with
      | some (x, [], l1), some z => some (⟨t, x⟩ :: z.1, l1 ++ z.2)
      | _, _ => none
    | _ => none
def AV.list : AV → Option (List V1)
  | .w v => some [v]
  | .tup [_] => none
  | .tup vs => some vs
def boxId (i : Nat) : Nat := 500000 + i
/-- Parameters as a function finds them. -/
def pars : Nat → List PS → List Dv → Option (List AV × List (Nat × Ob) × List (Nat × Ty))
  | _, [], [] => some ([], [], [])
  | i, .d t agg :: ps, d :: ds => match castT t d.1 d.2, pars (i + 1) ps ds with
    | some x, some z => some (.w (asV agg t x) :: z.1, z.2)
    | _, _ => none
  | i, .bx t :: ps, d :: ds => match castT t d.1 d.2, pars (i + 1) ps ds with
    | some x, some z => some (.w (.one (.pb (boxId i) 0)) :: z.1, (boxId i, .box (unpack t x)) :: z.2.1, (boxId i, t) :: z.2.2)
    | _, _ => none
  | _, _, _ => none
def ptrIds : Nat → List AV → Option (List Nat × List AV)
  | 0, vs => some ([], vs)
  | n + 1, .w (.one (.pb id 0)) :: vs => match ptrIds n vs with
    | some z => some (id :: z.1, z.2)
    | none => none
  | _ + 1, _ => none
/-- Function values put together again. -/
def unfl : List PS → List AV → Option (List AV)
  | [], [] => some []
  | [], _ :: _ => none
  | .cl g ts :: ps, vs => match ptrIds ts.length vs with
    | some z => match unfl ps z.2 with
      | some y => some (.w (.one (.fn g z.1)) :: y)
      | none => none
    | none => none
  | .d _ _ :: ps, v :: vs => match unfl ps vs with
    | some y => some (v :: y)
    | none => none
  | .bx _ :: ps, v :: vs => match unfl ps vs with
    | some y => some (v :: y)
    | none => none
  | _, [] => none
def kExt (s : Summ) (bx : List (Nat × Ty)) (v : AV) (H : List (Nat × Ob)) : Option (List Dv) := match v.list with
  | some l => match ext1 H s.rs l, extB H bx with
    | some z, some b => bif nodupN z.2.1 && disjN z.2.1 (z.2.2 ++ b.2) then some (z.1 ++ b.1) else none
    | _, _ => none
  | none => none
/-- A function's run, from data to data. -/
def runS (TT : Nat → Option TD) (Φ : Nat → Option Summ) (inl : (ρ : Type) → Nat → List AV → List (Nat × Ob) → (AV → List (Nat × Ob) → Option ρ) → Option ρ) (N : Nat) (f : FI) (s : Summ) (ds : List Dv) : Option (List Dv) :=
  match pars 0 (flatP s.ps) ds with
  | some p => match unfl s.ps p.1 with
    | some avs => runF TT Φ inl N f avs p.2.1 (kExt s p.2.2)
    | none => none
  | none => none
/-- The same, with what comes out read by 'd'. -/
def kT {R : Type} (d : List Dv → Option R) (s : Summ) (bx : List (Nat × Ty)) (v : AV) (H : List (Nat × Ob)) : Option R := match kExt s bx v H with
  | some ds => d ds
  | none => none
def runST {R : Type} (d : List Dv → Option R) (TT : Nat → Option TD) (Φ : Nat → Option Summ) (inl : (ρ : Type) → Nat → List AV → List (Nat × Ob) → (AV → List (Nat × Ob) → Option ρ) → Option ρ) (N : Nat) (f : FI) (s : Summ) (ds : List Dv) : Option R :=
  match pars 0 (flatP s.ps) ds with
  | some p => match unfl s.ps p.1 with
    | some avs => runF TT Φ inl N f avs p.2.1 (kT d s p.2.2)
    | none => none
  | none => none

end Go.MC

/- What an operation of the interpreter reads decides what it tells (general; no program in sight). -/
set_option linter.unusedVariables false
set_option linter.unusedSimpArgs false
namespace Go.MC
open Go.RowKit

/-- Two states alike at a key (a slot: even; a block: odd). -/
def Agree (S T : St) (key : Nat) : Prop := (∀ i, key = 2 * i → lkF S.fr i = lkF T.fr i) ∧ (∀ i, key = 2 * i + 1 → lkH S.H i = lkH T.H i)

/-- At every state it either tells one thing, and the same wherever what it read is the same, or it fails. -/
def Good {α : Type} (m : M α) : Prop := ∀ S : St,
  (∃ a R, ∀ T : St, (∀ key ∈ R, Agree S T key) → ∀ ρ L (k : α → List Nat → Option ρ), m ρ T L k = k a (R ++ L)) ∨ (∀ ρ L (k : α → List Nat → Option ρ), m ρ S L k = none)

/-- It tells a, having read R. -/
def Tells {α : Type} (m : M α) (S : St) (a : α) (R : List Nat) : Prop := ∀ T : St, (∀ key ∈ R, Agree S T key) → ∀ ρ L (k : α → List Nat → Option ρ), m ρ T L k = k a (R ++ L)

theorem Agree.refl (S : St) (key : Nat) : Agree S S key := ⟨fun _ _ => rfl, fun _ _ => rfl⟩

theorem Good.tells {α : Type} {m : M α} (h : Good m) {S : St} {ρ : Type} {L : List Nat} {k : α → List Nat → Option ρ} {r : ρ} (hr : m ρ S L k = some r) :
    ∃ a R, Tells m S a R ∧ k a (R ++ L) = some r := by
  rcases h S with ⟨a, R, ht⟩ | hf
  · refine ⟨a, R, ht, ?_⟩
    rw [← ht S (fun _ _ => Agree.refl _ _) ρ L k]
    exact hr
  · rw [hf] at hr; cases hr

theorem run_bind {α β : Type} (m : M α) (f : α → M β) (ρ : Type) (S : St) : ∀ (L : List Nat) (k : β → List Nat → Option ρ), (M.bind m f) ρ S L k = m ρ S L fun a L' => (f a) ρ S L' k := by
  induction m with
  | ret a => exact fun _ _ => rfl
  | no => exact fun _ _ => rfl
  | slot i g ih => exact fun L k => ih _ _ k
  | obj i g ih => exact fun L k => ih _ _ k
  | grd b m ih =>
    intro L k
    cases b
    · rfl
    · exact ih L k
  | ite b m n ih1 ih2 =>
    intro L k
    cases b
    · exact ih2 L k
    · exact ih1 L k

theorem Good.all {α : Type} (m : M α) : Good m := by
  intro S
  induction m with
  | ret a => exact .inl ⟨a, [], fun T _ ρ L k => rfl⟩
  | no => exact .inr fun _ _ _ => rfl
  | slot i g ih =>
    rcases ih (lkF S.fr i) with ⟨a, R, h⟩ | h
    · refine .inl ⟨a, R ++ [2 * i], fun T hT ρ L k => ?_⟩
      have h1 := (hT (2 * i) (by simp)).1 i rfl
      show (g (lkF T.fr i)) ρ T ((2 * i) :: L) k = _
      rw [← h1, h T (fun key hk => hT key (by simp [hk])), List.append_assoc]
      rfl
    · exact .inr fun ρ L k => h ρ _ k
  | obj i g ih =>
    rcases ih (lkH S.H i) with ⟨a, R, h⟩ | h
    · refine .inl ⟨a, R ++ [2 * i + 1], fun T hT ρ L k => ?_⟩
      have h1 := (hT (2 * i + 1) (by simp)).2 i rfl
      show (g (lkH T.H i)) ρ T ((2 * i + 1) :: L) k = _
      rw [← h1, h T (fun key hk => hT key (by simp [hk])), List.append_assoc]
      rfl
    · exact .inr fun ρ L k => h ρ _ k
  | grd b m ih =>
    cases b
    · exact .inr fun _ _ _ => rfl
    · exact ih
  | ite b m n ih1 ih2 =>
    cases b
    · exact ih2
    · exact ih1

theorem Good.pure {α : Type} (a : α) : Good (M.pure a) := Good.all _
theorem Good.fail {α : Type} : Good (fail : M α) := Good.all _
theorem Good.guard (b : Bool) : Good (guardB b) := Good.all _
theorem Good.rdS (i : Nat) : Good (rdS i) := Good.all _
theorem Good.rdO (i : Nat) : Good (rdO i) := Good.all _
theorem Good.ofOpt {α : Type} (o : Option α) : Good (ofOpt o) := Good.all _
theorem Good.bind {α β : Type} {m : M α} {f : α → M β} (hm : Good m) (hf : ∀ a, Good (f a)) : Good (M.bind m f) := Good.all _
theorem Good.ite {α : Type} {b : Bool} {m n : M α} (hm : Good m) (hn : Good n) : Good (iteB b m n) := Good.all _
theorem good_opd (x : Operand) : Good (opd x) := Good.all _
theorem good_asC (v : AV) : Good (asC v) := Good.all _
theorem good_asV1 (v : AV) : Good (asV1 v) := Good.all _
theorem good_opC (x : Operand) : Good (opC x) := Good.all _
theorem good_opV (x : Operand) : Good (opV x) := Good.all _
theorem good_packC (fz : Bool) (t : Ty) (c : C) : Good (packC fz t c) := Good.all _
theorem good_pack1 (fz : Bool) (t : Ty) (cs : List C) : Good (pack1 fz t cs) := Good.all _
theorem good_pack (fz : Bool) (t : Ty) (cs : List C) : Good (pack fz t cs) := Good.all _
theorem good_opVs (l : List Operand) : Good (opVs l) := Good.all _
theorem good_opAs (l : List Operand) : Good (opAs l) := Good.all _
theorem good_pbIds (l : List Operand) : Good (pbIds l) := Good.all _
theorem good_packAll (fz : Bool) (t : Ty) (l : List V1) : Good (packAll fz t l) := Good.all _
theorem good_freshAll (l : List (Nat × Ob)) : Good (freshAll l) := Good.all _
theorem good_inRange (i : Int) (n : Nat) : Good (inRange i n) := Good.all _
theorem good_loadD (td : TD) (t : Ty) (x : t.den) : Good (loadD td t x) := Good.all _
theorem good_val (c : C) : Good (val c) := Good.all _
theorem good_dstOf (d : Option Nat) : Good (dstOf d) := Good.all _
theorem good_loadAt (td : TD) (p : C) : Good (loadAt td p) := Good.all _
theorem good_storeAt (td : TD) (p : C) (v : V1) : Good (storeAt td p v) := Good.all _
theorem good_fieldAddrAt (td : TD) (p : C) (j : Nat) : Good (fieldAddrAt td p j) := Good.all _
theorem good_indexAddrAt (td : TD) (x : C) (i : Int) : Good (indexAddrAt td x i) := Good.all _
theorem good_sliceOf (x : C) : Good (sliceOf x) := Good.all _
theorem good_rowsOf (x : C) : Good (rowsOf x) := Good.all _
theorem good_optInt (x : Option Operand) (d : Int) : Good (optInt x d) := Good.all _
theorem good_sliceStep (sl : Bool) (td : TD) (x : Operand) (lo hi mx : Option Operand) : Good (sliceStep sl td x lo hi mx) := Good.all _
theorem good_indexStep (x i : Operand) : Good (indexStep x i) := Good.all _
theorem good_lenStep (sl : Bool) (x : Operand) : Good (lenStep sl x) := Good.all _
theorem good_appendStep (dst e : Nat) (td : TD) (x y : Operand) : Good (appendStep dst e td x y) := Good.all _
theorem good_makeStep (dst e : Nat) (td : TD) (x y : Operand) : Good (makeStep dst e td x y) := Good.all _
theorem good_buildSliceStep (dst e : Nat) (td : TD) (len : Nat) (ps : List (Nat × Operand)) : Good (buildSliceStep dst e td len ps) := Good.all _
theorem good_binStep (TT : Nat → Option TD) (op : BinOp) (t : Nat) (x y : Operand) : Good (binStep TT op t x y) := Good.all _
theorem good_unStep (op : UnOp) (x : Operand) : Good (unStep op x) := Good.all _
theorem good_convStep (TT : Nat → Option TD) (s d : Nat) (x : Operand) : Good (convStep TT s d x) := Good.all _
theorem good_args1 (fz : Bool) : ∀ (ps : List PS) (vs : List AV), Good (args1 fz ps vs) := fun _ _ => Good.all _
theorem good_summStep (s : Summ) (dst : Nat) (vs : List AV) : Good (summStep s dst vs) := Good.all _
theorem good_calleeOf (f : Operand) (l : List Operand) : Good (calleeOf f l) := Good.all _
theorem good_elemOf (TT : Nat → Option TD) (td : TD) : Good (elemOf TT td) := Good.all _
theorem good_step (TT : Nat → Option TD) (Φ : Nat → Option Summ) (o : Oper) : Good (step TT Φ o) := Good.all _

end Go.MC

/- How the interpreter's states stand to the machine's worlds (general). -/
set_option linter.unusedVariables false
set_option linter.unusedSimpArgs false
namespace Go.MC
open Go.RowKit

/-- What stays the same through a call: where its own blocks begin, which older blocks are only read, which may be written. -/
structure Fx where
  B : Nat
  okA : Nat → Prop
  ext : Nat → Prop
  w0 : World
  lt : ∀ b, okA b → b < B
  ne : ∀ b, okA b → ¬ ext b

/-- A world, the blocks as they are told, and where they lie. -/
structure K where
  w : World
  h : Nat → Option Ob
  μ : Nat → Nat
  ν : Nat → Value

def K.own (k : K) (id b : Nat) : Prop := match k.h id with
  | some (.box _) => k.μ id = b
  | some (.arr ..) => (k.ν id).ownBlock = some b
  | _ => False

/-- What is read alone: what was there and is only read; what is new and isn't written any more. -/
def K.ok (F : Fx) (k : K) (b : Nat) : Prop := F.okA b ∨ (F.B ≤ b ∧ b < k.w.heap.size ∧ ∀ id, ¬ k.own id b)

def relC (F : Fx) (k : K) : C → Value → Prop
  | .u, _ => True
  | .nd, v => v = undef
  | .v t x, v => Rd k.w (k.ok F) t x [v]
  | .emp, v => v = .slice none 0 0
  | .arr id, v => (∃ a n c, v = .slice a n c) ∧ match k.h id with
    | some (.arr ..) => v = k.ν id
    | some (.imm ..) => v = k.ν id
    | some .gone => True
    | _ => False
  | .pd t x, v => ∃ ad vs, v = .pointer (some ad) ∧ k.ok F ad.block ∧ Rd k.w (k.ok F) t x vs ∧ CellsAt k.w ad vs
  | .pb id off, v => (∃ cs, k.h id = some (.box cs)) ∧ v = .pointer (some ⟨k.μ id, off, none⟩)
  | .pa id j p, v => (∃ ad, v = .pointer (some ad)) ∧ match k.h id with
    | some (.arr _ r xs) => 0 ≤ j ∧ j < (xs.length : Int) ∧ ∃ g n c t o, k.ν id = .slice (some ⟨g, 0, none⟩) n c ∧ pathTy r p = some (t, o) ∧ v = .pointer (some ⟨g, j.toNat * r.sz + o, none⟩)
    | some _ => True
    | none => False
  | .fn g caps, v => (∀ id ∈ caps, ∃ cs, k.h id = some (.box cs)) ∧ v = .func (.func g) #[] (caps.map fun id => Value.pointer (some ⟨k.μ id, 0, none⟩)).toArray

def relCs (F : Fx) (k : K) : List C → List Value → Prop
  | [], vs => vs = []
  | c :: cs, vs => ∃ v vs', vs = v :: vs' ∧ relC F k c v ∧ relCs F k cs vs'

def relV (F : Fx) (k : K) : V1 → Value → Prop
  | .one c, v => relC F k c v
  | .agg cs, v => ∃ vs, v = .agg vs.toArray ∧ relCs F k cs vs

def relVs (F : Fx) (k : K) : List V1 → List Value → Prop
  | [], vs => vs = []
  | c :: cs, vs => ∃ v vs', vs = v :: vs' ∧ relV F k c v ∧ relVs F k cs vs'

def relA (F : Fx) (k : K) : AV → Value → Prop
  | .w v, x => relV F k v x
  | .tup vs, x => ∃ xs, x = .tuple xs.toArray ∧ relVs F k vs xs

def objR (F : Fx) (k : K) (id : Nat) : Ob → Prop
  | .box cs => ∃ vs T, k.w.heap[k.μ id]? = some (.cells vs.toArray T (0, 0)) ∧ relCs F k cs vs
  | .arr e r xs => ∃ vs, k.w.ownsRow F.B e r.sz (k.ν id) xs.length vs ∧ RdRows k.w (k.ok F) r xs vs ∧ xs.length ≤ lim
  | .imm r xs => Rd k.w (k.ok F) (.slice r) xs [k.ν id]
  | .gone => True

structure HeapOK (F : Fx) (k : K) : Prop where
  obj : ∀ id o, k.h id = some o → objR F k id o
  inj : ∀ id id' b, k.own id b → k.own id' b → id = id'
  rng : ∀ id b, k.own id b → (F.B ≤ b ∨ F.ext b) ∧ b < k.w.heap.size
  frame : ∀ b, b < F.B → ¬ F.ext b → k.w.heap[b]? = F.w0.heap[b]?
  size : F.B ≤ k.w.heap.size
  os : k.w.os = F.w0.os
  tape : k.w.tape = F.w0.tape
  output : k.w.output = F.w0.output

/-- What held goes on: the world has grown, own blocks have turned as they may. -/
structure Le (F : Fx) (k k' : K) : Prop where
  size : k.w.heap.size ≤ k'.w.heap.size
  ok : ∀ b, k.ok F b → k'.ok F b
  hp : ∀ b, k.ok F b → b < k.w.heap.size → k'.w.heap[b]? = k.w.heap[b]?
  box : ∀ id cs, k.h id = some (.box cs) → (∃ cs', k'.h id = some (.box cs')) ∧ k'.μ id = k.μ id
  arr : ∀ id e r xs, k.h id = some (.arr e r xs) → (∃ xs', k'.h id = some (.arr e r xs') ∧ xs'.length = xs.length ∧ k'.ν id = k.ν id) ∨ (∃ r' xs', k'.h id = some (.imm r' xs') ∧ k'.ν id = k.ν id) ∨ k'.h id = some .gone
  imm : ∀ id r xs, k.h id = some (.imm r xs) → ∃ r' xs', k'.h id = some (.imm r' xs') ∧ k'.ν id = k.ν id
  gone : ∀ id, k.h id = some .gone → k'.h id = some .gone

theorem Le.refl (F : Fx) (k : K) : Le F k k :=
  ⟨Nat.le_refl _, fun _ h => h, fun _ _ _ => rfl, fun _ _ h => ⟨⟨_, h⟩, rfl⟩, fun _ _ _ _ h => .inl ⟨_, h, rfl, rfl⟩, fun _ _ _ h => ⟨_, _, h, rfl⟩, fun _ h => h⟩

theorem Le.trans {F : Fx} {a b c : K} (h : Le F a b) (g : Le F b c) : Le F a c := by
  refine ⟨Nat.le_trans h.size g.size, fun x hx => g.ok x (h.ok x hx), fun x hx hlt => (g.hp x (h.ok x hx) (Nat.lt_of_lt_of_le hlt h.size)).trans (h.hp x hx hlt), fun id cs hc => ?_, fun id e r xs hc => ?_, fun id r xs hc => ?_, fun id hc => g.gone id (h.gone id hc)⟩
  · obtain ⟨⟨cs', h1⟩, h2⟩ := h.box id cs hc
    obtain ⟨h3, h4⟩ := g.box id cs' h1
    exact ⟨h3, h4.trans h2⟩
  · rcases h.arr id e r xs hc with ⟨xs', h1, h3, h2⟩ | ⟨r', xs', h1, h2⟩ | h1
    · rcases g.arr id e r xs' h1 with ⟨xs2, h4, h6, h5⟩ | ⟨r2, xs2, h4, h5⟩ | h4
      · exact .inl ⟨xs2, h4, h6.trans h3, h5.trans h2⟩
      · exact .inr (.inl ⟨r2, xs2, h4, h5.trans h2⟩)
      · exact .inr (.inr h4)
    · obtain ⟨r2, xs2, h4, h5⟩ := g.imm id r' xs' h1
      exact .inr (.inl ⟨r2, xs2, h4, h5.trans h2⟩)
    · exact .inr (.inr (g.gone id h1))
  · obtain ⟨r', xs', h1, h2⟩ := h.imm id r xs hc
    obtain ⟨r2, xs2, h3, h4⟩ := g.imm id r' xs' h1
    exact ⟨r2, xs2, h3, h4.trans h2⟩

theorem Le.rd {F : Fx} {k k' : K} (h : Le F k k') {t : Ty} {x : t.den} {vs : List Value} (hr : Rd k.w (k.ok F) t x vs) : Rd k'.w (k'.ok F) t x vs := hr.mono h.ok h.hp
theorem Le.rdRows {F : Fx} {k k' : K} (h : Le F k k') {r : Ty} {xs : List r.den} {vs : List Value} (hr : RdRows k.w (k.ok F) r xs vs) : RdRows k'.w (k'.ok F) r xs vs := hr.mono h.ok h.hp

theorem Le.c {F : Fx} {k k' : K} (h : Le F k k') : ∀ {c : C} {v : Value}, relC F k c v → relC F k' c v
  | .u, _, _ => trivial
  | .nd, _, hr => hr
  | .v t x, _, hr => h.rd hr
  | .emp, _, hr => hr
  | .arr id, v, hr => by
    simp only [relC] at hr ⊢
    obtain ⟨hsl, hr⟩ := hr
    refine ⟨hsl, ?_⟩
    split at hr
    · rename_i e r xs he
      rcases h.arr id e r xs he with ⟨xs', h1, _, h2⟩ | ⟨r', xs', h1, h2⟩ | h1
      · rw [h1]; exact hr.trans h2.symm
      · rw [h1]; exact hr.trans h2.symm
      · rw [h1]; trivial
    · rename_i r xs he
      obtain ⟨r', xs', h1, h2⟩ := h.imm id r xs he
      rw [h1]; exact hr.trans h2.symm
    · rename_i he
      rw [h.gone id he]; trivial
    · exact hr.elim
  | .pd t x, v, hr => by
    obtain ⟨ad, vs, hv, hok, hrd, hc⟩ := hr
    refine ⟨ad, vs, hv, h.ok _ hok, h.rd hrd, ?_⟩
    cases vs with
    | nil => intro i v hi; simp at hi
    | cons v0 vs =>
      have h0 := hc 0 v0 rfl
      have hlt := World.block_lt_of_cell? k.w _ h0
      rw [add_block] at hlt
      exact hc.mono (h.hp _ hok hlt)
  | .pb id off, v, hr => by
    obtain ⟨⟨cs, hc⟩, hv⟩ := hr
    obtain ⟨h1, h2⟩ := h.box id cs hc
    exact ⟨h1, by rw [h2]; exact hv⟩
  | .pa id j p, v, hr => by
    simp only [relC] at hr ⊢
    obtain ⟨hsl, hr⟩ := hr
    refine ⟨hsl, ?_⟩
    cases ho : k.h id with
    | none => rw [ho] at hr; exact hr.elim
    | some o =>
      rw [ho] at hr
      cases o with
      | box cs => obtain ⟨⟨cs', h1⟩, _⟩ := h.box id cs ho; rw [h1]; trivial
      | arr e r xs =>
        rcases h.arr id e r xs ho with ⟨xs', h1, h3, h2⟩ | ⟨r', xs', h1, h2⟩ | h1
        · rw [h1]
          show 0 ≤ j ∧ j < (xs'.length : Int) ∧ _
          rw [h3, h2]
          exact hr
        · rw [h1]; trivial
        · rw [h1]; trivial
      | imm r xs => obtain ⟨_, _, h1, _⟩ := h.imm id r xs ho; rw [h1]; trivial
      | gone => rw [h.gone id ho]; trivial
  | .fn g caps, v, hr => by
    obtain ⟨hc, hv⟩ := hr
    refine ⟨fun id hi => ?_, ?_⟩
    · obtain ⟨cs, h1⟩ := hc id hi
      exact (h.box id cs h1).1
    · rw [hv]
      congr 2
      refine List.map_congr_left fun id hi => ?_
      obtain ⟨cs, h1⟩ := hc id hi
      rw [(h.box id cs h1).2]

theorem Le.cs {F : Fx} {k k' : K} (h : Le F k k') : ∀ {cs : List C} {vs : List Value}, relCs F k cs vs → relCs F k' cs vs
  | [], _, hr => hr
  | _ :: _, _, hr => by
    obtain ⟨v, vs', hv, h1, h2⟩ := hr
    exact ⟨v, vs', hv, h.c h1, h.cs h2⟩
theorem Le.v {F : Fx} {k k' : K} (h : Le F k k') : ∀ {c : V1} {v : Value}, relV F k c v → relV F k' c v
  | .one _, _, hr => h.c hr
  | .agg _, _, hr => by
    obtain ⟨vs, hv, h1⟩ := hr
    exact ⟨vs, hv, h.cs h1⟩
theorem Le.vs {F : Fx} {k k' : K} (h : Le F k k') : ∀ {cs : List V1} {vs : List Value}, relVs F k cs vs → relVs F k' cs vs
  | [], _, hr => hr
  | _ :: _, _, hr => by
    obtain ⟨v, vs', hv, h1, h2⟩ := hr
    exact ⟨v, vs', hv, h.v h1, h.vs h2⟩
theorem Le.a {F : Fx} {k k' : K} (h : Le F k k') : ∀ {c : AV} {v : Value}, relA F k c v → relA F k' c v
  | .w _, _, hr => h.v hr
  | .tup _, _, hr => by
    obtain ⟨vs, hv, h1⟩ := hr
    exact ⟨vs, hv, h.vs h1⟩

theorem relCs.length {F : Fx} {k : K} : ∀ {cs : List C} {vs : List Value}, relCs F k cs vs → vs.length = cs.length
  | [], _, h => by simp only [relCs] at h; subst h; rfl
  | _ :: _, _, h => by
    obtain ⟨v, vs', rfl, _, h2⟩ := h
    simp [h2.length]
theorem relCs.append {F : Fx} {k : K} : ∀ {cs ds : List C} {us vs : List Value}, relCs F k cs us → relCs F k ds vs → relCs F k (cs ++ ds) (us ++ vs)
  | [], _, _, _, h, g => by simp only [relCs] at h; subst h; simpa using g
  | _ :: _, _, _, _, h, g => by
    obtain ⟨v, vs', rfl, h1, h2⟩ := h
    exact ⟨v, vs' ++ _, rfl, h1, h2.append g⟩
theorem relCs.split {F : Fx} {k : K} : ∀ {cs ds : List C} {vs : List Value}, relCs F k (cs ++ ds) vs → ∃ u v, vs = u ++ v ∧ relCs F k cs u ∧ relCs F k ds v
  | [], _, vs, h => ⟨[], vs, rfl, rfl, h⟩
  | _ :: _, _, _, h => by
    obtain ⟨v, vs', rfl, h1, h2⟩ := h
    obtain ⟨u, w, rfl, h3, h4⟩ := relCs.split h2
    exact ⟨v :: u, w, rfl, ⟨v, u, rfl, h1, h3⟩, h4⟩
theorem relCs.take {F : Fx} {k : K} {cs : List C} {vs : List Value} (h : relCs F k cs vs) (n : Nat) : relCs F k (cs.take n) (vs.take n) ∧ relCs F k (cs.drop n) (vs.drop n) := by
  induction cs generalizing vs n with
  | nil =>
    simp only [relCs] at h
    subst h
    simp [relCs]
  | cons c cs ih =>
    cases n with
    | zero => exact ⟨by simp [relCs], by simpa using h⟩
    | succ n =>
      obtain ⟨v, vs', rfl, h1, h2⟩ := h
      exact ⟨⟨v, _, rfl, h1, (ih h2 n).1⟩, (ih h2 n).2⟩
theorem relCs.at {F : Fx} {k : K} {cs : List C} {vs : List Value} (h : relCs F k cs vs) (j : Nat) (c : C) (hj : cs[j]? = some c) : ∃ v, vs[j]? = some v ∧ relC F k c v := by
  induction cs generalizing vs j with
  | nil => simp at hj
  | cons d ds ih =>
    obtain ⟨v, vs', rfl, h1, h2⟩ := h
    cases j with
    | zero => simp at hj; subst hj; exact ⟨v, rfl, h1⟩
    | succ j => simpa using ih h2 j (by simpa using hj)

/-- A cell of which something is known can be stored. -/
theorem relC.oneCell {F : Fx} {k : K} : ∀ {c : C} {v : Value}, relC F k c v → c.known = true → v.oneCell' = true
  | .u, _, _, h => by simp [C.known] at h
  | .nd, _, _, h => by simp [C.known] at h
  | .v t x, v, h, _ => h.one v (by simp)
  | .emp, _, h, _ => by cases h; rfl
  | .arr id, v, h, _ => by obtain ⟨⟨a, n, c, rfl⟩, _⟩ := h; rfl
  | .pd t x, _, h, _ => by obtain ⟨ad, vs, rfl, _⟩ := h; rfl
  | .pb id off, _, h, _ => by obtain ⟨_, rfl⟩ := h; rfl
  | .pa id j p, v, h, _ => by obtain ⟨⟨ad, rfl⟩, _⟩ := h; rfl
  | .fn g caps, _, h, _ => by obtain ⟨_, rfl⟩ := h; rfl
theorem relCs.oneCell {F : Fx} {k : K} : ∀ {cs : List C} {vs : List Value}, relCs F k cs vs → cs.all C.known = true → ∀ v ∈ vs, v.oneCell' = true
  | [], _, h, _ => by simp only [relCs] at h; subst h; simp
  | c :: cs, _, h, ha => by
    obtain ⟨v, vs', rfl, h1, h2⟩ := h
    simp only [List.all_cons, Bool.and_eq_true] at ha
    intro x hx
    rcases List.mem_cons.1 hx with rfl | hx
    · exact h1.oneCell ha.1
    · exact h2.oneCell ha.2 x hx

end Go.MC

/- Steps of the heap; data put together and taken apart (general). -/
set_option linter.unusedVariables false
set_option linter.unusedSimpArgs false
namespace Go.MC
open Go.RowKit

theorem ownsRow_block {w w' : World} {base e size n : Nat} {v : Value} {xs : List Value} (h : w.ownsRow base e size v n xs) (hb : ∀ b, v.ownBlock = some b → w'.heap[b]? = w.heap[b]?) : w'.ownsRow base e size v n xs := by
  refine ⟨h.1, ?_⟩
  rcases h.2 with hn | ⟨g, cap, cur, rfl, h1, h2, rest⟩
  · exact .inl hn
  · exact .inr ⟨g, cap, cur, rfl, h1, by rw [hb g rfl]; exact h2, rest⟩

theorem K.ok_lt {F : Fx} {k : K} (hk : HeapOK F k) {b : Nat} (h : k.ok F b) : b < k.w.heap.size := by
  rcases h with h | h
  · exact Nat.lt_of_lt_of_le (F.lt b h) hk.size
  · exact h.2.1
theorem K.ok_own {F : Fx} {k : K} (hk : HeapOK F k) {b : Nat} (h : k.ok F b) (id : Nat) : ¬ k.own id b := by
  intro ho
  rcases h with h | h
  · rcases (hk.rng id b ho).1 with h1 | h1
    · have := F.lt b h; omega
    · exact F.ne b h h1
  · exact h.2.2 id ho

/-- One step of the heap. -/
theorem HeapOK.step' {F : Fx} {k k' : K} (hk : HeapOK F k) (hle : Le F k k')
    (hob : ∀ id o, k'.h id = some o → (k.h id = some o ∧ ∀ b, k.own id b → k'.w.heap[b]? = k.w.heap[b]?) ∨ objR F k' id o)
    (hinj : ∀ id id' b, k'.own id b → k'.own id' b → id = id')
    (hrng : ∀ id b, k'.own id b → (F.B ≤ b ∨ F.ext b) ∧ b < k'.w.heap.size)
    (hfr : ∀ b, b < F.B → ¬ F.ext b → k'.w.heap[b]? = k.w.heap[b]?)
    (hos : k'.w.os = k.w.os) (ht : k'.w.tape = k.w.tape) (ho : k'.w.output = k.w.output) : HeapOK F k' := by
  refine ⟨fun id o h => ?_, hinj, hrng, fun b hb he => (hfr b hb he).trans (hk.frame b hb he), Nat.le_trans hk.size hle.size, hos.trans hk.os, ht.trans hk.tape, ho.trans hk.output⟩
  rcases hob id o h with ⟨h1, h2⟩ | h1
  · have hobj := hk.obj id o h1
    cases o with
    | box cs =>
      obtain ⟨vs, T, hc, hr⟩ := hobj
      obtain ⟨_, hμ⟩ := hle.box id cs h1
      refine ⟨vs, T, ?_, hle.cs hr⟩
      rw [hμ, h2 _ (by simp [K.own, h1])]
      exact hc
    | arr e r xs =>
      obtain ⟨vs, hc, hr, hl⟩ := hobj
      have hν : k'.ν id = k.ν id := by
        rcases hle.arr id e r xs h1 with ⟨_, _, _, h3⟩ | ⟨_, _, h3, _⟩ | h3
        · exact h3
        · rw [h] at h3; cases h3
        · rw [h] at h3; cases h3
      refine ⟨vs, ?_, hle.rdRows hr, hl⟩
      rw [hν]
      exact ownsRow_block hc fun b hb => h2 b (by simp [K.own, h1, hb])
    | imm r xs =>
      obtain ⟨_, _, _, hν⟩ := hle.imm id r xs h1
      show Rd _ _ _ _ [k'.ν id]
      rw [hν]
      exact hle.rd hobj
    | gone => trivial
  · exact h1

theorem HeapOK.step {F : Fx} {k k' : K} (hk : HeapOK F k) (hle : Le F k k')
    (hob : ∀ id o, k'.h id = some o → (k.h id = some o ∧ ∀ b, k.own id b → k'.w.heap[b]? = k.w.heap[b]?) ∨ objR F k' id o)
    (hown : ∀ id b, k'.own id b → k.own id b ∨ (k.w.heap.size ≤ b ∧ b < k'.w.heap.size ∧ ∀ id', k'.own id' b → id' = id))
    (hfr : ∀ b, b < F.B → ¬ F.ext b → k'.w.heap[b]? = k.w.heap[b]?)
    (hsz : k.w.heap.size ≤ k'.w.heap.size) (hos : k'.w.os = k.w.os) (ht : k'.w.tape = k.w.tape) (ho : k'.w.output = k.w.output) : HeapOK F k' := by
  refine hk.step' hle hob (fun id id' b h h' => ?_) (fun id b h => ?_) hfr hos ht ho
  · rcases hown id b h with h1 | ⟨h1, _, h2⟩
    · rcases hown id' b h' with h3 | ⟨h3, _, h4⟩
      · exact hk.inj id id' b h1 h3
      · have := (hk.rng id b h1).2; omega
    · exact (h2 id' h').symm
  · rcases hown id b h with h1 | ⟨h1, h2, _⟩
    · have := hk.rng id b h1
      exact ⟨this.1, Nat.lt_of_lt_of_le this.2 hsz⟩
    · exact ⟨.inl (Nat.le_trans hk.size h1), h2⟩

/-- Data taken apart. -/
theorem unpack_rel {F : Fx} {k : K} : ∀ {t : Ty} {x : t.den} {vs : List Value}, Rd k.w (k.ok F) t x vs → relCs F k (unpack t x) vs
  | .pair a b, x, _, h => by
    simp only [Rd] at h
    obtain ⟨v1, v2, rfl, h1, h2⟩ := h
    exact (unpack_rel h1).append (unpack_rel h2)
  | .bool, x, vs, h => by
    have hl := h.length
    match vs, hl with
    | [v], _ => exact ⟨v, [], rfl, h, rfl⟩
  | .int k, x, vs, h => by
    have hl := h.length
    match vs, hl with
    | [v], _ => exact ⟨v, [], rfl, h, rfl⟩
  | .str, x, vs, h => by
    have hl := h.length
    match vs, hl with
    | [v], _ => exact ⟨v, [], rfl, h, rfl⟩
  | .slice r, x, vs, h => by
    have hl := h.length
    match vs, hl with
    | [v], _ => exact ⟨v, [], rfl, h, rfl⟩

theorem unpack_length : ∀ (t : Ty) (x : t.den), (unpack t x).length = t.sz
  | .pair a b, x => by simp [unpack, Ty.sz, unpack_length a, unpack_length b]
  | .bool, _ => rfl
  | .int _, _ => rfl
  | .str, _ => rfl
  | .slice _, _ => rfl

theorem castT_eq {t t' : Ty} {x : t'.den} {y : t.den} (h : castT t t' x = some y) : ∃ e : t' = t, y = e ▸ x := by
  unfold castT at h
  split at h
  · rename_i e; exact ⟨e, (Option.some.inj h).symm⟩
  · cases h

/-- The taken numbers are own arrays. -/
def Taken (k : K) (l : List Nat) : Prop := ∀ id ∈ l, ∃ e r xs, k.h id = some (.arr e r xs)
/-- What 'pack' tells of blocks: what is read alone, and the arrays that were taken. -/
def K.okT (F : Fx) (k : K) (l : List Nat) (b : Nat) : Prop := k.ok F b ∨ ∃ id ∈ l, k.own id b

theorem okT_nil {F : Fx} {k : K} {b : Nat} : k.okT F [] b ↔ k.ok F b := by simp [K.okT]
theorem okT_mono {F : Fx} {k : K} {l m : List Nat} (h : ∀ id ∈ l, id ∈ m) {b : Nat} (hb : k.okT F l b) : k.okT F m b := by
  rcases hb with hb | ⟨id, hi, ho⟩
  · exact .inl hb
  · exact .inr ⟨id, h id hi, ho⟩

/-- What is laid aside by 'pack': own arrays, from now on only read. -/
def Frozen (k : K) (obs : List (Nat × Ob)) : Prop := ∀ p ∈ obs, ∃ e r xs, k.h p.1 = some (.arr e r xs) ∧ p.2 = .imm r xs

/-- An own array, as a slice that is read. -/
theorem arr_rd {F : Fx} {k : K} (hk : HeapOK F k) {id e : Nat} {r : Ty} {xs : List r.den} (h : k.h id = some (.arr e r xs)) : Rd k.w (k.okT F [id]) (.slice r) xs [k.ν id] := by
  obtain ⟨vs, hc, hr, hl⟩ := hk.obj id _ h
  have hr' : RdRows k.w (k.okT F [id]) r xs vs := hr.mono (fun b hb => .inl hb) (fun _ _ _ => rfl)
  rcases hc.2 with ⟨hv, hn⟩ | ⟨g, cap, cur, hv, hB, hg, hnc, _⟩
  · rw [hv]
    have : xs = [] := List.eq_nil_of_length_eq_zero hn
    subst this
    exact Rd.nil r none 0
  · rw [hv]
    refine hr'.slice ⟨g, 0, none⟩ cap (fun _ i v hi => hc.cells (g := g) (by rw [hv]; rfl) i v hi) (fun _ => .inr ⟨id, by simp, ?_⟩) hnc hl
    simp [K.own, h, hv, Value.ownBlock]

theorem tells_eq {α : Type} {m : M α} {S : St} {a b : α} {R R' : List Nat} (h : Tells m S a R) (h' : Tells m S b R') : a = b ∧ R = R' := by
  have h1 := h S (fun _ _ => Agree.refl _ _) (α × List Nat) [] (fun a L => some (a, L))
  have h2 := h' S (fun _ _ => Agree.refl _ _) (α × List Nat) [] (fun a L => some (a, L))
  rw [h1] at h2
  have := Option.some.inj h2
  simp only [List.append_nil, Prod.mk.injEq] at this
  exact this

/-- A chain of readings, taken apart. -/
theorem tells_bind {α β : Type} {m : M α} {f : α → M β} {S : St} {b : β} {R : List Nat} (hm : Good m) (hf : ∀ a, Good (f a)) (h : Tells (M.bind m f) S b R) : ∃ a R1 R2, Tells m S a R1 ∧ Tells (f a) S b R2 ∧ R = R2 ++ R1 := by
  have h0 := h S (fun _ _ => Agree.refl _ _) (β × List Nat) [] (fun a L => some (a, L))
  have h1 : m (β × List Nat) S [] (fun a L' => (f a) (β × List Nat) S L' (fun a L => some (a, L))) = some (b, R ++ []) := (run_bind m f _ S [] _).symm.trans h0
  obtain ⟨a, R1, ht, h2⟩ := hm.tells h1
  obtain ⟨b', R2, ht2, h3⟩ := (hf a).tells h2
  have h4 := Option.some.inj h3
  simp only [List.append_nil, Prod.mk.injEq] at h4
  obtain ⟨rfl, h5⟩ := h4
  exact ⟨a, R1, R2, ht, ht2, h5.symm⟩
theorem tells_pure {α : Type} {a b : α} {S : St} {R : List Nat} (h : Tells (M.pure a) S b R) : b = a ∧ R = [] := by
  have h0 := h S (fun _ _ => Agree.refl _ _) (α × List Nat) [] (fun a L => some (a, L))
  have := Option.some.inj h0
  simp only [List.append_nil, Prod.mk.injEq] at this
  exact ⟨this.1.symm, this.2.symm⟩
theorem tells_fail {α : Type} {b : α} {S : St} {R : List Nat} (h : Tells (fail : M α) S b R) : False := by
  have h0 := h S (fun _ _ => Agree.refl _ _) (α × List Nat) [] (fun a L => some (a, L))
  cases h0
theorem tells_guard {c : Bool} {S : St} {u : Unit} {R : List Nat} (h : Tells (guardB c) S u R) : c = true ∧ R = [] := by
  have h0 := h S (fun _ _ => Agree.refl _ _) (Unit × List Nat) [] (fun a L => some (a, L))
  cases c with
  | false => cases h0
  | true =>
    have := Option.some.inj h0
    simp only [List.append_nil, Prod.mk.injEq] at this
    exact ⟨rfl, this.2.symm⟩
theorem tells_ofOpt {α : Type} {o : Option α} {S : St} {a : α} {R : List Nat} (h : Tells (ofOpt o) S a R) : o = some a ∧ R = [] := by
  cases o with
  | none => exact (tells_fail h).elim
  | some b => obtain ⟨h1, h2⟩ := tells_pure h; exact ⟨by rw [h1], h2⟩
theorem tells_rdS {i : Nat} {S : St} {v : AV} {R : List Nat} (h : Tells (rdS i) S v R) : v = lkF S.fr i ∧ R = [2 * i] := by
  have h0 := h S (fun _ _ => Agree.refl _ _) (AV × List Nat) [] (fun a L => some (a, L))
  have := Option.some.inj h0
  simp only [List.append_nil, Prod.mk.injEq] at this
  exact ⟨this.1.symm, this.2.symm⟩
theorem tells_rdO {i : Nat} {S : St} {v : Option Ob} {R : List Nat} (h : Tells (rdO i) S v R) : v = lkH S.H i ∧ R = [2 * i + 1] := by
  have h0 := h S (fun _ _ => Agree.refl _ _) (Option Ob × List Nat) [] (fun a L => some (a, L))
  have := Option.some.inj h0
  simp only [List.append_nil, Prod.mk.injEq] at this
  exact ⟨this.1.symm, this.2.symm⟩

/-- Cells put together as data: what was taken, and what the data reads as. -/
theorem packC_sound {F : Fx} {k : K} (hk : HeapOK F k) {S : St} (hS : k.h = lkH S.H) {fz : Bool} {t : Ty} {c : C} {x : t.den} {obs : List (Nat × Ob)} {R : List Nat}
    (h : Tells (packC fz t c) S (x, obs) R) {v : Value} (hv : relC F k c v) : ∃ l, Taken k l ∧ Rd k.w (k.okT F l) t x [v] ∧ Frozen k obs ∧ (fz = true → ∀ id ∈ l, id ∈ obs.map (·.1)) := by
  cases c with
  | v t' x' =>
    unfold packC at h
    obtain ⟨y, R1, R2, h1, h2, _⟩ := tells_bind (Good.ofOpt _) (fun _ => Good.pure _) h
    obtain ⟨h3, _⟩ := tells_pure h2
    obtain ⟨rfl, rfl⟩ := Prod.mk.inj h3
    obtain ⟨h4, _⟩ := tells_ofOpt h1
    obtain ⟨rfl, rfl⟩ := castT_eq h4
    exact ⟨[], fun _ h => by simp at h, hv.mono (fun b hb => .inl hb) (fun _ _ _ => rfl), fun _ h => by simp at h, fun _ _ h => by simp at h⟩
  | emp =>
    cases t with
    | slice r =>
      obtain ⟨h3, _⟩ := tells_pure h
      obtain ⟨rfl, rfl⟩ := Prod.mk.inj h3
      cases hv
      exact ⟨[], fun _ h => by simp at h, Rd.nil r none 0, fun _ h => by simp at h, fun _ _ h => by simp at h⟩
    | _ => exact (tells_fail h).elim
  | arr id =>
    unfold packC at h
    obtain ⟨o, R1, R2, h1, h2, _⟩ := tells_bind (Good.rdO _) (fun o => by
      cases o with
      | none => exact Good.fail
      | some o => cases o <;> first | exact Good.fail | exact Good.bind (Good.ofOpt _) (fun _ => Good.pure _)) h
    obtain ⟨rfl, _⟩ := tells_rdO h1
    obtain ⟨_, hv⟩ := hv
    rw [← hS] at h2
    cases ho : k.h id with
    | none => rw [ho] at h2; exact (tells_fail h2).elim
    | some o =>
      rw [ho] at h2 hv
      cases o with
      | box cs => exact (tells_fail h2).elim
      | gone => exact (tells_fail h2).elim
      | arr e r xs =>
        obtain ⟨y, R1, R2, h1, h2, _⟩ := tells_bind (Good.ofOpt _) (fun _ => Good.pure _) h2
        obtain ⟨h3, _⟩ := tells_pure h2
        obtain ⟨rfl, rfl⟩ := Prod.mk.inj h3
        obtain ⟨h4, _⟩ := tells_ofOpt h1
        obtain ⟨rfl, rfl⟩ := castT_eq h4
        obtain rfl : v = k.ν id := hv
        refine ⟨[id], fun i hi => ?_, arr_rd hk ho, ?_, ?_⟩
        · simp at hi; subst hi; exact ⟨e, r, _, ho⟩
        · intro p hp
          cases fz with
          | false => simp at hp
          | true => simp at hp; subst hp; exact ⟨e, r, _, ho, rfl⟩
        · intro hf i hi
          subst hf
          simpa using hi
      | imm r xs =>
        obtain ⟨y, R1, R2, h1, h2, _⟩ := tells_bind (Good.ofOpt _) (fun _ => Good.pure _) h2
        obtain ⟨h3, _⟩ := tells_pure h2
        obtain ⟨rfl, rfl⟩ := Prod.mk.inj h3
        obtain ⟨h4, _⟩ := tells_ofOpt h1
        obtain ⟨rfl, rfl⟩ := castT_eq h4
        obtain rfl : v = k.ν id := hv
        have hobj := hk.obj id _ ho
        simp only [objR] at hobj
        exact ⟨[], fun _ h => by simp at h, hobj.mono (fun b hb => .inl hb) (fun _ _ _ => rfl), fun _ h => by simp at h, fun _ _ h => by simp at h⟩
  | _ => exact (tells_fail h).elim

theorem pack1_sound {F : Fx} {k : K} (hk : HeapOK F k) {S : St} (hS : k.h = lkH S.H) {fz : Bool} {t : Ty} {cs rest : List C} {x : t.den} {obs : List (Nat × Ob)} {R : List Nat}
    (h : Tells (pack1 fz t cs) S (x, rest, obs) R) {vs : List Value} (hv : relCs F k cs vs) :
    ∃ l u v, vs = u ++ v ∧ relCs F k rest v ∧ Taken k l ∧ Rd k.w (k.okT F l) t x u ∧ Frozen k obs ∧ (fz = true → ∀ id ∈ l, id ∈ obs.map (·.1)) := by
  cases cs with
  | nil => exact (tells_fail h).elim
  | cons c cs =>
    unfold pack1 at h
    obtain ⟨p, R1, R2, h1, h2, _⟩ := tells_bind (good_packC _ _ _) (fun _ => Good.pure _) h
    obtain ⟨h3, _⟩ := tells_pure h2
    obtain ⟨rfl, h4⟩ := Prod.mk.inj h3
    obtain ⟨rfl, rfl⟩ := Prod.mk.inj h4
    obtain ⟨v, vs', rfl, hv1, hv2⟩ := hv
    obtain ⟨l, hl, hr, hf, hz⟩ := packC_sound hk hS (x := p.1) (obs := p.2) h1 hv1
    exact ⟨l, [v], vs', rfl, hv2, hl, hr, hf, hz⟩

theorem pack_sound {F : Fx} {k : K} (hk : HeapOK F k) {S : St} (hS : k.h = lkH S.H) {fz : Bool} : ∀ {t : Ty} {cs rest : List C} {x : t.den} {obs : List (Nat × Ob)} {R : List Nat}
    (h : Tells (pack fz t cs) S (x, rest, obs) R) {vs : List Value} (hv : relCs F k cs vs),
    ∃ l u v, vs = u ++ v ∧ relCs F k rest v ∧ Taken k l ∧ Rd k.w (k.okT F l) t x u ∧ Frozen k obs ∧ (fz = true → ∀ id ∈ l, id ∈ obs.map (·.1))
  | .pair a b, cs, rest, x, obs, R, h, vs, hv => by
    unfold pack at h
    obtain ⟨p, R1, R2, h1, h2, _⟩ := tells_bind (good_pack _ _ _) (fun _ => Good.bind (good_pack _ _ _) fun _ => Good.pure _) h
    obtain ⟨q, R3, R4, h3, h4, _⟩ := tells_bind (good_pack _ _ _) (fun _ => Good.pure _) h2
    obtain ⟨h5, _⟩ := tells_pure h4
    obtain ⟨rfl, h6⟩ := Prod.mk.inj h5
    obtain ⟨rfl, rfl⟩ := Prod.mk.inj h6
    obtain ⟨l1, u1, v1, rfl, hr1, ht1, hd1, hf1, hz1⟩ := pack_sound hk hS (x := p.1) (rest := p.2.1) (obs := p.2.2) h1 hv
    obtain ⟨l2, u2, v2, rfl, hr2, ht2, hd2, hf2, hz2⟩ := pack_sound hk hS (x := q.1) (rest := q.2.1) (obs := q.2.2) h3 hr1
    refine ⟨l1 ++ l2, u1 ++ u2, v2, by simp, hr2, fun id hi => ?_, ?_, fun z hz => ?_, fun hf id hi => ?_⟩
    · rcases List.mem_append.1 hi with hi | hi
      · exact ht1 id hi
      · exact ht2 id hi
    · exact ⟨u1, u2, rfl, hd1.mono (fun b hb => okT_mono (fun i hi => List.mem_append.2 (.inl hi)) hb) (fun _ _ _ => rfl), hd2.mono (fun b hb => okT_mono (fun i hi => List.mem_append.2 (.inr hi)) hb) (fun _ _ _ => rfl)⟩
    · rcases List.mem_append.1 hz with hz | hz
      · exact hf2 z hz
      · exact hf1 z hz
    · rw [List.map_append]
      rcases List.mem_append.1 hi with hi | hi
      · exact List.mem_append.2 (.inr (hz1 hf id hi))
      · exact List.mem_append.2 (.inl (hz2 hf id hi))
  | .slice r, cs, rest, x, obs, R, h, vs, hv => by unfold pack at h; exact pack1_sound hk hS h hv
  | .bool, cs, rest, x, obs, R, h, vs, hv => by unfold pack at h; exact pack1_sound hk hS h hv
  | .int _, cs, rest, x, obs, R, h, vs, hv => by unfold pack at h; exact pack1_sound hk hS h hv
  | .str, cs, rest, x, obs, R, h, vs, hv => by unfold pack at h; exact pack1_sound hk hS h hv

/-- A list of blocks ahead of what was told. -/
theorem lkH_append (l H : List (Nat × Ob)) (i : Nat) : lkH (l ++ H) i = (lkH l i).or (lkH H i) := by
  induction l with
  | nil => simp [lkH]
  | cons p l ih =>
    obtain ⟨j, o⟩ := p
    simp only [List.cons_append, lkH]
    cases h : Nat.beq j i
    · simpa using ih
    · simp
theorem lkH_some {l : List (Nat × Ob)} {i : Nat} {o : Ob} (h : lkH l i = some o) : (i, o) ∈ l := by
  induction l with
  | nil => simp [lkH] at h
  | cons p l ih =>
    obtain ⟨j, o'⟩ := p
    simp only [lkH] at h
    cases hj : Nat.beq j i
    · rw [hj] at h; exact List.mem_cons.2 (.inr (ih (by simpa using h)))
    · rw [hj] at h
      have e := Nat.eq_of_beq_eq_true hj
      simp at h
      subst e h
      exact List.mem_cons_self ..
theorem lkH_mem {l : List (Nat × Ob)} {i : Nat} (h : i ∈ l.map (·.1)) : ∃ o, lkH l i = some o := by
  induction l with
  | nil => simp at h
  | cons p l ih =>
    obtain ⟨j, o'⟩ := p
    simp only [lkH]
    cases hj : Nat.beq j i
    · have hne : i ≠ j := by rintro rfl; rw [Nat.beq_refl] at hj; cases hj
      simp only [List.map_cons, List.mem_cons] at h
      rcases h with h | h
      · exact absurd h hne
      · simpa using ih h
    · exact ⟨o', rfl⟩

def K.put (k : K) (obs : List (Nat × Ob)) : K := { k with h := fun i => (lkH obs i).or (k.h i) }

theorem put_h {k : K} {S : St} (hS : k.h = lkH S.H) (obs : List (Nat × Ob)) : (k.put obs).h = lkH (obs ++ S.H) := by
  funext i
  rw [lkH_append]
  simp [K.put, hS]

/-- Own arrays from now on only read. -/
theorem freeze {F : Fx} {k : K} (hk : HeapOK F k) {obs : List (Nat × Ob)} (hf : Frozen k obs) :
    HeapOK F (k.put obs) ∧ Le F k (k.put obs) ∧ ∀ b, k.okT F (obs.map (·.1)) b → (k.put obs).ok F b := by
  have hget : ∀ i o, lkH obs i = some o → ∃ e r xs, k.h i = some (.arr e r xs) ∧ o = .imm r xs := fun i o ho => hf (i, o) (lkH_some ho)
  have hh : ∀ i, (lkH obs i = none ∧ (k.put obs).h i = k.h i) ∨ ∃ e r xs, k.h i = some (.arr e r xs) ∧ (k.put obs).h i = some (.imm r xs) ∧ i ∈ obs.map (·.1) := by
    intro i
    cases ho : lkH obs i with
    | none => exact .inl ⟨rfl, by simp [K.put, ho]⟩
    | some o =>
      obtain ⟨e, r, xs, h1, rfl⟩ := hget i o ho
      exact .inr ⟨e, r, xs, h1, by simp [K.put, ho], List.mem_map.2 ⟨_, lkH_some ho, rfl⟩⟩
  have hown : ∀ i b, (k.put obs).own i b → k.own i b ∧ i ∉ obs.map (·.1) := by
    intro i b hb
    rcases hh i with ⟨h1, h2⟩ | ⟨e, r, xs, h1, h2, _⟩
    · refine ⟨?_, fun hm => ?_⟩
      · unfold K.own at hb ⊢; rw [h2] at hb; exact hb
      · obtain ⟨o, ho⟩ := lkH_mem hm; rw [h1] at ho; cases ho
    · unfold K.own at hb; rw [h2] at hb; exact hb.elim
  have hok : ∀ b, k.okT F (obs.map (·.1)) b → (k.put obs).ok F b := by
    intro b hb
    rcases hb with hb | ⟨id, hi, ho⟩
    · rcases hb with hb | ⟨h1, h2, h3⟩
      · exact .inl hb
      · exact .inr ⟨h1, h2, fun i hi => h3 i (hown i b hi).1⟩
    · have hB : F.B ≤ b := by
        obtain ⟨o, hlo⟩ := lkH_mem hi
        obtain ⟨e, r, xs, h1, _⟩ := hget id o hlo
        obtain ⟨vs, hc, _⟩ := hk.obj id _ h1
        unfold K.own at ho
        rw [h1] at ho
        exact (hc.lt b ho).1
      exact .inr ⟨hB, (hk.rng id b ho).2, fun i hi' => (hown i b hi').2 ((hk.inj i id b (hown i b hi').1 ho) ▸ hi)⟩
  have hle : Le F k (k.put obs) := by
    refine ⟨Nat.le_refl _, fun b hb => hok b (.inl hb), fun _ _ _ => rfl, fun id cs h => ?_, fun id e r xs h => ?_, fun id r xs h => ?_, fun id h => ?_⟩
    · rcases hh id with ⟨_, h2⟩ | ⟨e, r, xs, h1, _⟩
      · exact ⟨⟨cs, h2.trans h⟩, rfl⟩
      · rw [h] at h1; cases h1
    · rcases hh id with ⟨_, h2⟩ | ⟨e', r', xs', h1, h2, _⟩
      · exact .inl ⟨xs, h2.trans h, rfl, rfl⟩
      · exact .inr (.inl ⟨r', xs', h2, rfl⟩)
    · rcases hh id with ⟨_, h2⟩ | ⟨e', r', xs', h1, h2, _⟩
      · exact ⟨r, xs, h2.trans h, rfl⟩
      · exact ⟨r', xs', h2, rfl⟩
    · rcases hh id with ⟨_, h2⟩ | ⟨e', r', xs', h1, h2, _⟩
      · exact h2.trans h
      · rw [h] at h1; cases h1
  refine ⟨hk.step hle (fun id o h => ?_) (fun id b h => .inl (hown id b h).1) (fun _ _ _ => rfl) (Nat.le_refl _) rfl rfl rfl, hle, hok⟩
  rcases hh id with ⟨_, h2⟩ | ⟨e, r, xs, h1, h2, hm⟩
  · exact .inl ⟨h2 ▸ h, fun _ _ => rfl⟩
  · rw [h2] at h
    cases h
    refine .inr ?_
    exact (arr_rd hk h1).mono (fun b hb => hok b (okT_mono (fun i hi => by simp at hi; subst hi; exact hm) hb)) (fun _ _ _ => rfl)

end Go.MC

/- New blocks; writing into own blocks (general). -/
set_option linter.unusedVariables false
set_option linter.unusedSimpArgs false
namespace Go.MC
open Go.RowKit

theorem lkH_one (id : Nat) (o : Ob) (i : Nat) : lkH [(id, o)] i = if i = id then some o else none := by
  simp only [lkH]
  by_cases h : i = id
  · subst h; simp [Nat.beq_refl]
  · have : Nat.beq id i = false := by
      cases hb : Nat.beq id i
      · rfl
      · exact absurd (Nat.eq_of_beq_eq_true hb).symm h
    simp [this, h]

/-- A new block of the call's own: told as 'o', at 'id'. -/
def K.new (k : K) (ob : Obj) (id : Nat) (o : Ob) (v : Value) : K :=
  ⟨k.w.alloc ob, (k.put [(id, o)]).h, fun i => if i = id then k.w.heap.size else k.μ i, fun i => if i = id then v else k.ν i⟩

theorem new_h (k : K) (ob : Obj) (id : Nat) (o : Ob) (v : Value) (i : Nat) : (k.new ob id o v).h i = if i = id then some o else k.h i := by
  simp only [K.new, K.put, lkH_one]
  split <;> simp

theorem heap_old (w : World) (o : Obj) (b : Nat) (h : b < w.heap.size) : (w.alloc o).heap[b]? = w.heap[b]? := Below.heap_alloc w o b h

theorem new_step {F : Fx} {k : K} (hk : HeapOK F k) {ob : Obj} {id : Nat} {o : Ob} {v : Value} (hid : k.h id = none) (hv : ∀ b, v.ownBlock = some b → b = k.w.heap.size)
    (hobj : Le F k (k.new ob id o v) → objR F (k.new ob id o v) id o) : HeapOK F (k.new ob id o v) ∧ Le F k (k.new ob id o v) := by
  have hown : ∀ i b, (k.new ob id o v).own i b → (i ≠ id ∧ k.own i b) ∨ (i = id ∧ b = k.w.heap.size) := by
    intro i b h
    unfold K.own at h
    rw [new_h] at h
    by_cases hi : i = id
    · subst hi
      rw [if_pos rfl] at h
      refine .inr ⟨rfl, ?_⟩
      cases o with
      | box cs => simp [K.new] at h; exact h.symm
      | arr e r xs => simp [K.new] at h; exact hv b h
      | imm r xs => exact h.elim
      | gone => exact h.elim
    · rw [if_neg hi] at h
      refine .inl ⟨hi, ?_⟩
      unfold K.own
      simpa [K.new, hi] using h
  have hle : Le F k (k.new ob id o v) := by
    have hne : ∀ i o', k.h i = some o' → i ≠ id := by rintro i o' h rfl; rw [hid] at h; cases h
    refine ⟨by simp [K.new], fun b hb => ?_, fun b hb hlt => heap_old _ _ _ hlt, fun i cs h => ?_, fun i e r xs h => ?_, fun i r xs h => ?_, fun i h => ?_⟩
    · rcases hb with hb | ⟨h1, h2, h3⟩
      · exact .inl hb
      · refine .inr ⟨h1, by simp [K.new]; omega, fun i hi => ?_⟩
        rcases hown i b hi with ⟨_, h4⟩ | ⟨_, h4⟩
        · exact h3 i h4
        · omega
    · exact ⟨⟨cs, by rw [new_h, if_neg (hne i _ h)]; exact h⟩, by simp [K.new, hne i _ h]⟩
    · exact .inl ⟨xs, by rw [new_h, if_neg (hne i _ h)]; exact h, rfl, by simp [K.new, hne i _ h]⟩
    · exact ⟨r, xs, by rw [new_h, if_neg (hne i _ h)]; exact h, by simp [K.new, hne i _ h]⟩
    · rw [new_h, if_neg (hne i _ h)]; exact h
  refine ⟨hk.step hle (fun i o' h => ?_) (fun i b h => ?_) (fun b hb _ => heap_old _ _ _ (Nat.lt_of_lt_of_le hb hk.size)) (by simp [K.new]) rfl rfl rfl, hle⟩
  · rw [new_h] at h
    by_cases hi : i = id
    · subst hi
      rw [if_pos rfl] at h
      cases h
      exact .inr (hobj hle)
    · rw [if_neg hi] at h
      exact .inl ⟨h, fun b hb => heap_old _ _ _ (hk.rng i b hb).2⟩
  · rcases hown i b h with ⟨_, h1⟩ | ⟨h1, h2⟩
    · exact .inl h1
    · refine .inr ⟨by omega, by simp [K.new]; omega, fun id' h' => ?_⟩
      rcases hown id' b h' with ⟨_, h3⟩ | ⟨h3, _⟩
      · have := (hk.rng id' b h3).2; omega
      · exact h3.trans h1.symm

/-- A new variable. -/
theorem new_box {F : Fx} {k : K} (hk : HeapOK F k) {id : Nat} (hid : k.h id = none) {cs : List C} {vs : List Value} {T : TypeId} (hr : relCs F k cs vs) :
    ∃ k', k'.w = k.w.alloc (.cells vs.toArray T) ∧ k'.h = (k.put [(id, .box cs)]).h ∧ HeapOK F k' ∧ Le F k k' ∧ relC F k' (.pb id 0) (.pointer (some ⟨k.w.heap.size, 0, none⟩)) := by
  have h := new_step hk (ob := .cells vs.toArray T) (o := .box cs) (v := .slice none 0 0) hid (fun b h => by simp [Value.ownBlock] at h) (fun hle => ?_)
  · refine ⟨k.new (.cells vs.toArray T) id (.box cs) (.slice none 0 0), rfl, rfl, h.1, h.2, ⟨cs, by rw [new_h, if_pos rfl]⟩, ?_⟩
    simp [K.new]
  · refine ⟨vs, T, ?_, hle.cs hr⟩
    simp only [K.new, if_pos]
    exact heap_alloc_new _ _

/-- A new array. -/
theorem new_arr {F : Fx} {k : K} (hk : HeapOK F k) {id : Nat} (hid : k.h id = none) {e : TypeId} {r : Ty} {xs : List r.den} {cur : Array Value} {cap : Nat} (hc : xs.length ≤ cap) (hm : cap ≤ maxLen) (hs : cur.size = cap * r.sz)
    (hr : RdRows k.w (k.ok F) r xs (cur.toList.take (xs.length * r.sz))) (hl : xs.length ≤ lim) :
    ∃ k', k'.w = k.w.alloc (.cells cur e) ∧ k'.h = (k.put [(id, .arr e r xs)]).h ∧ HeapOK F k' ∧ Le F k k' ∧ relC F k' (.arr id) (.slice (some ⟨k.w.heap.size, 0, none⟩) xs.length cap) := by
  have h := new_step hk (ob := .cells cur e) (o := .arr e r xs) (v := .slice (some ⟨k.w.heap.size, 0, none⟩) xs.length cap) hid (fun b h => by simp [Value.ownBlock] at h; exact h.symm) (fun hle => ?_)
  · refine ⟨k.new (.cells cur e) id (.arr e r xs) (.slice (some ⟨k.w.heap.size, 0, none⟩) xs.length cap), rfl, rfl, h.1, h.2, ⟨_, _, _, rfl⟩, ?_⟩
    rw [new_h, if_pos rfl]
    simp [K.new]
  · refine ⟨_, ?_, hle.rdRows hr, hl⟩
    refine ⟨hr.length, .inr ⟨k.w.heap.size, cap, cur, by simp [K.new], hk.size, heap_alloc_new _ _, hc, hm, hs, rfl⟩⟩

/-- An own block is written: what it holds is told anew. -/
theorem set_step {F : Fx} {k : K} (hk : HeapOK F k) {id : Nat} {o o' : Ob} (hid : k.h id = some o) {w' : World} {b : Nat} (hb : k.own id b)
    (hkind : (∃ cs cs', o = .box cs ∧ o' = .box cs') ∨ (∃ e r xs ys, o = .arr e r xs ∧ o' = .arr e r ys ∧ ys.length = xs.length))
    (hsz : w'.heap.size = k.w.heap.size) (hoth : ∀ c, c ≠ b → w'.heap[c]? = k.w.heap[c]?) (hos : w'.os = k.w.os) (ht : w'.tape = k.w.tape) (ho : w'.output = k.w.output)
    (hobj : Le F k ⟨w', (k.put [(id, o')]).h, k.μ, k.ν⟩ → objR F ⟨w', (k.put [(id, o')]).h, k.μ, k.ν⟩ id o') :
    HeapOK F ⟨w', (k.put [(id, o')]).h, k.μ, k.ν⟩ ∧ Le F k ⟨w', (k.put [(id, o')]).h, k.μ, k.ν⟩ := by
  have hh : ∀ i, (k.put [(id, o')]).h i = if i = id then some o' else k.h i := by
    intro i
    simp only [K.put, lkH_one]
    split <;> simp
  have hown : ∀ i c, (⟨w', (k.put [(id, o')]).h, k.μ, k.ν⟩ : K).own i c ↔ k.own i c := by
    intro i c
    unfold K.own
    simp only [hh]
    by_cases hi : i = id
    · subst hi
      rw [if_pos rfl, hid]
      rcases hkind with ⟨cs, cs', rfl, rfl⟩ | ⟨e, r, xs, ys, rfl, rfl, _⟩ <;> rfl
    · rw [if_neg hi]
  have hle : Le F k ⟨w', (k.put [(id, o')]).h, k.μ, k.ν⟩ := by
    refine ⟨Nat.le_of_eq hsz.symm, fun c hc => ?_, fun c hc _ => hoth c ?_, fun i cs h => ?_, fun i e r xs h => ?_, fun i r xs h => ?_, fun i h => ?_⟩
    · rcases hc with hc | ⟨h1, h2, h3⟩
      · exact .inl hc
      · exact .inr ⟨h1, by rw [hsz]; exact h2, fun i hi => h3 i ((hown i c).1 hi)⟩
    · rintro rfl
      exact K.ok_own hk hc id hb
    · by_cases hi : i = id
      · subst hi
        rw [hid] at h
        rcases hkind with ⟨cs, cs', rfl, rfl⟩ | ⟨e, r, xs, ys, rfl, rfl, _⟩
        · exact ⟨⟨cs', by rw [hh, if_pos rfl]⟩, rfl⟩
        · cases h
      · exact ⟨⟨cs, by rw [hh, if_neg hi]; exact h⟩, rfl⟩
    · by_cases hi : i = id
      · subst hi
        rw [hid] at h
        rcases hkind with ⟨cs, cs', rfl, rfl⟩ | ⟨e, r, xs, ys, rfl, rfl, hl⟩
        · cases h
        · cases h
          exact .inl ⟨ys, by rw [hh, if_pos rfl], hl, rfl⟩
      · exact .inl ⟨xs, by rw [hh, if_neg hi]; exact h, rfl, rfl⟩
    · by_cases hi : i = id
      · subst hi
        rw [hid] at h
        rcases hkind with ⟨cs, cs', rfl, rfl⟩ | ⟨e, r, xs, ys, rfl, rfl, hl⟩ <;> cases h
      · exact ⟨r, xs, by rw [hh, if_neg hi]; exact h, rfl⟩
    · by_cases hi : i = id
      · subst hi
        rw [hid] at h
        rcases hkind with ⟨cs, cs', rfl, rfl⟩ | ⟨e, r, xs, ys, rfl, rfl, hl⟩ <;> cases h
      · rw [hh, if_neg hi]; exact h
  refine ⟨hk.step hle (fun i o2 h => ?_) (fun i c h => .inl ((hown i c).1 h)) (fun c hc he => hoth c ?_) (Nat.le_of_eq hsz.symm) hos ht ho, hle⟩
  · by_cases hi : i = id
    · subst hi
      simp only [hh, if_pos] at h
      cases h
      exact .inr (hobj hle)
    · simp only [hh, if_neg hi] at h
      refine .inl ⟨h, fun c hc => hoth c ?_⟩
      rintro rfl
      exact hi (hk.inj i id c hc hb)
  · rintro rfl
    rcases (hk.rng id c hb).1 with h1 | h1
    · omega
    · exact he h1

/-- Cells of a block, written. -/
theorem store_cells (P : Program) {w : World} {g off : Nat} {cur : List Value} {T : TypeId} (hg : w.heap[g]? = some (.cells cur.toArray T (0, 0))) {vs : List Value} (hfit : off + vs.length ≤ cur.length) (h1 : ∀ v ∈ vs, v.oneCell' = true) :
    ∃ w', (storeCells ⟨g, off, none⟩ vs).run P w = .ok () w' ∧ w'.heap[g]? = some (.cells (cur.take off ++ (vs ++ cur.drop (off + vs.length))).toArray T (0, 0)) ∧ w'.heap.size = w.heap.size ∧ (∀ c, c ≠ g → w'.heap[c]? = w.heap[c]?) ∧
      w'.os = w.os ∧ w'.tape = w.tape ∧ w'.output = w.output := by
  have h := run_storeCells_at P g off T vs 0 cur.toArray w hg (by simpa using hfit) h1
  simp only [Nat.add_zero] at h
  refine ⟨_, h, ?_, ?_, ?_, ?_, ?_, ?_⟩
  · have := setRow_heap w g cur.toArray (cur.toArray.toList.take off ++ vs ++ cur.toArray.toList.drop (off + vs.length)).toArray T (0, 0) hg
    simpa using this
  · simp [World.setRow]
  · intro c hc
    exact setRow_other w g c _ hc
  · rfl
  · rfl
  · rfl

end Go.MC

/- Memory operations: what the interpreter tells of them holds of the machine (general). -/
set_option linter.unusedVariables false
set_option linter.unusedSimpArgs false
namespace Go.MC
open Go.RowKit

/-- What is told of a type is so. -/
structure TDok (P : Program) (t : Nat) (td : TD) : Prop where
  info : ∃ ti z, P.info? t = some ti ∧ ti.size = td.sz ∧ ti.bytes = td.bytes ∧ ti.zero = some z ∧ z.cells.size = td.sz ∧ (∀ F k, relCs F k td.zero z.cells.toList) ∧ (td.dat = true → ∀ w ok, Rd w ok td.ty td.ty.dflt z.cells.toList)
  agg : td.agg = true → ∃ fs : Array Field, P.underlying t = some (.struct fs) ∧ fs.toList.map (fun f => (f.type, f.offset)) = td.flds
  noagg : td.agg = false → td.sz = 1 ∧ td.flds = [] ∧ ∃ d, P.underlying t = some d ∧ (∀ fs, d ≠ .struct fs) ∧ (∀ n e, d ≠ .array n e)
  sl : ∀ r, td.ty = .slice r → P.underlying t = some (.slice td.elem)
  int : ∀ k, td.ty = .int k → P.underlying t = some (.int k)
  str : td.ty = .str → P.underlying t = some .string
  bool : td.ty = .bool → P.underlying t = some .bool
  fld : ∀ f ∈ td.flds, ∃ ti, P.info? f.1 = some ti ∧ 0 < ti.size
  pos : 0 < td.sz
  eqs : td.eqs ≠ [] → ∃ fs : Array Field, P.underlying t = some (.struct fs) ∧ P.stoodInHeld t = false ∧ P.eqGuardType P.depth t = false ∧ fs.size = td.eqs.length ∧
    ∀ (j : Nat) (f : Field), fs.toList[j]? = some f → f.name ≠ "_" ∧ f.offset = j ∧ ((td.eqs[j]? = some .bool ∧ P.underlying f.type = some .bool) ∨ (td.eqs[j]? = some .str ∧ P.underlying f.type = some .string) ∨ ∃ k, td.eqs[j]? = some (.int k) ∧ P.underlying f.type = some (.int k))

def TTok (P : Program) (TT : Nat → Option TD) : Prop := ∀ t td, TT t = some td → TDok P t td

/-- A run that gives a value; what is told of it. -/
def Does (P : Program) (F : Fx) (k : K) (s : Sem Value) (U : Upd) : Prop :=
  ∃ v k', s.run P k.w = .ok v k'.w ∧ k'.h = (k.put U.obs).h ∧ HeapOK F k' ∧ Le F k k' ∧ relA F k' U.val v

theorem put_nil (k : K) : (k.put []).h = k.h := by funext i; simp [K.put, lkH]

theorem Does.pure {P : Program} {F : Fx} {k : K} (hk : HeapOK F k) {s : Sem Value} {v : Value} {a : AV} (h : s.run P k.w = .ok v k.w) (ha : relA F k a v) : Does P F k s ⟨a, []⟩ :=
  ⟨v, k, h, (put_nil k).symm, hk, Le.refl F k, ha⟩

/-! Fields and paths -/
theorem offT_zero (t : Ty) (n : Nat) : offT t n 0 = 0 := by cases t <;> rfl
theorem fldT_t {t : Ty} {x : t.den} {n : Nat} (h : Nat.ble n 1 = true) : fldT t x n 0 = some ⟨t, x⟩ := by cases t <;> simp [fldT, h]
theorem fldTy_t {t : Ty} {n : Nat} (h : Nat.ble n 1 = true) : fldTy t n 0 = some t := by cases t <;> simp [fldTy, h]
theorem setF_t {t : Ty} {x : t.den} {n : Nat} (h : Nat.ble n 1 = true) (d : Dv) : setF t x n 0 d = castT t d.1 d.2 := by cases t <;> simp [setF, h]
theorem castT_self (t : Ty) (x : t.den) : castT t t x = some x := by simp [castT]

theorem fld_rd {w : World} {ok : Nat → Prop} : ∀ (j : Nat) {t : Ty} {x : t.den} {vs : List Value} {n : Nat} {d : Dv}, fldT t x n j = some d → Rd w ok t x vs →
    fldTy t n j = some d.1 ∧ ∃ u c v, vs = u ++ (c ++ v) ∧ u.length = offT t n j ∧ Rd w ok d.1 d.2 c ∧ (∀ (ok' : Nat → Prop) (y : d.1.den) c', (∀ b, ok b → ok' b) → Rd w ok' d.1 y c' → ∃ x', setF t x n j ⟨d.1, y⟩ = some x' ∧ Rd w ok' t x' (u ++ (c' ++ v)))
  | 0, t, x, vs, n, d, h, hr => by
    rw [offT_zero]
    cases hn : Nat.ble n 1
    · cases t with
      | pair a b =>
        simp only [fldT, hn, cond_false] at h
        have h := Option.some.inj h
        subst h
        simp only [Rd] at hr
        obtain ⟨v1, v2, rfl, h1, h2⟩ := hr
        refine ⟨by simp [fldTy, hn], [], v1, v2, rfl, rfl, h1, fun ok' y c' ho hy => ⟨(y, x.2), ?_, ?_⟩⟩
        · simp [setF, hn, castT_self]
        · exact ⟨c', v2, rfl, hy, h2.mono ho (fun _ _ _ => rfl)⟩
      | _ => simp [fldT, hn] at h
    · rw [fldT_t hn] at h
      have h := Option.some.inj h
      subst h
      exact ⟨fldTy_t hn, [], vs, [], by simp, rfl, hr, fun ok' y c' ho hy => ⟨y, (setF_t hn _).trans (castT_self _ _), by simpa using hy⟩⟩
  | j + 1, t, x, vs, n, d, h, hr => by
    cases t with
    | pair a b =>
      simp only [fldT] at h
      simp only [Rd] at hr
      obtain ⟨v1, v2, rfl, h1, h2⟩ := hr
      obtain ⟨hty, u, c, v, rfl, hu, hc, hs⟩ := fld_rd j h h2
      refine ⟨by simpa only [fldTy] using hty, v1 ++ u, c, v, by simp, by simp [offT, h1.length, hu], hc, fun ok' y c' ho hy => ?_⟩
      obtain ⟨x', hx, hr'⟩ := hs ok' y c' ho hy
      exact ⟨(x.1, x'), by simp only [setF, hx], v1, u ++ (c' ++ v), by simp, h1.mono ho (fun _ _ _ => rfl), hr'⟩
    | _ => simp [fldT] at h

theorem path_rd {w : World} {ok : Nat → Prop} : ∀ (p : List (Nat × Nat)) {t : Ty} {x : t.den} {vs : List Value} {d : Dv}, projT t x p = some d → Rd w ok t x vs →
    ∃ o, pathTy t p = some (d.1, o) ∧ ∃ u c v, vs = u ++ (c ++ v) ∧ u.length = o ∧ Rd w ok d.1 d.2 c ∧ (∀ (ok' : Nat → Prop) (y : d.1.den) c', (∀ b, ok b → ok' b) → Rd w ok' d.1 y c' → ∃ x', setP t x p ⟨d.1, y⟩ = some x' ∧ Rd w ok' t x' (u ++ (c' ++ v)))
  | [], t, x, vs, d, h, hr => by
    have h : (⟨t, x⟩ : Dv) = d := Option.some.inj h
    subst h
    exact ⟨0, rfl, [], vs, [], by simp, rfl, hr, fun ok' y c' ho hy => ⟨y, by simp [setP, castT], by simpa using hy⟩⟩
  | (n, j) :: p, t, x, vs, d, h, hr => by
    simp only [projT] at h
    cases hf : fldT t x n j with
    | none => rw [hf] at h; cases h
    | some e =>
      rw [hf] at h
      obtain ⟨hty, u, c, v, rfl, hu, hc, hs⟩ := fld_rd j hf hr
      obtain ⟨o, hp, u2, c2, v2, rfl, hu2, hc2, hs2⟩ := path_rd p h hc
      refine ⟨offT t n j + o, by simp only [pathTy, hty, hp], u ++ u2, c2, v2 ++ v, by simp, by simp [hu, hu2], hc2, fun ok' y c' ho hy => ?_⟩
      obtain ⟨x2, hx2, hr2⟩ := hs2 ok' y c' ho hy
      obtain ⟨x3, hx3, hr3⟩ := hs ok' x2 _ ho hr2
      exact ⟨x3, by simp only [setP, hf, hx2, hx3], by simpa using hr3⟩

theorem pathTy_append : ∀ (p : List (Nat × Nat)) {t u v : Ty} {o n j : Nat}, pathTy t p = some (u, o) → fldTy u n j = some v → pathTy t (p ++ [(n, j)]) = some (v, o + offT u n j)
  | [], t, u, v, o, n, j, h, hv => by
    simp only [pathTy, Option.some.injEq, Prod.mk.injEq] at h
    obtain ⟨rfl, rfl⟩ := h
    simp [pathTy, hv]
  | (m, i) :: p, t, u, v, o, n, j, h, hv => by
    simp only [pathTy] at h
    cases hf : fldTy t m i with
    | none => rw [hf] at h; cases h
    | some t' =>
      rw [hf] at h
      dsimp only at h
      cases hp : pathTy t' p with
      | none => rw [hp] at h; cases h
      | some q =>
        obtain ⟨u', o'⟩ := q
        rw [hp] at h
        dsimp only at h
        simp only [Option.some.injEq, Prod.mk.injEq] at h
        obtain ⟨rfl, rfl⟩ := h
        simp only [List.cons_append, pathTy, hf, pathTy_append p hp hv, Nat.add_assoc]

/-! Reading and writing -/
section mem
variable {P : Program} {TT : Nat → Option TD}

theorem run_isAgg_true {t : Nat} {td : TD} (h : TDok P t td) (ha : td.agg = true) (w : World) : (isAgg t).run P w = .ok true w := by
  obtain ⟨fs, hf, _⟩ := h.agg ha
  simp [isAgg, run_underlying hf]
theorem run_isAgg_false {t : Nat} {td : TD} (h : TDok P t td) (ha : td.agg = false) (w : World) : (isAgg t).run P w = .ok false w := by
  obtain ⟨_, _, d, hd, h1, h2⟩ := h.noagg ha
  simp only [isAgg, Sem.run_bind, run_underlying hd, Result.andThen_ok]
  cases d <;> first | rfl | exact absurd rfl (h1 _) | exact absurd rfl (h2 _ _)
theorem run_sizeOf' {t : Nat} {td : TD} (h : TDok P t td) (w : World) : (sizeOf t).run P w = .ok td.sz w := by
  obtain ⟨ti, z, h1, h2, _⟩ := h.info
  simp [sizeOf, typeInfo, h1, h2]

theorem run_load_cell {w : World} {ad : Addr} {v : Value} (h : w.cell? ad = some v) : (load ad).run P w = .ok v w := by simp [h]

theorem run_loadVar_agg {t : Nat} {td : TD} (h : TDok P t td) (ha : td.agg = true) {w : World} {ad : Addr} {vs : List Value} (hc : CellsAt w ad vs) (hl : vs.length = td.sz) : (loadVar t ad).run P w = .ok (.agg vs.toArray) w := by
  have := run_loadCells_list (P := P) w ad vs hc
  simp only [loadVar, Sem.run_bind, run_isAgg_true h ha, Result.andThen_ok, if_true, run_sizeOf' h, ← hl, this, Sem.run_pure]
theorem run_loadVar_one {t : Nat} {td : TD} (h : TDok P t td) (ha : td.agg = false) {w : World} {ad : Addr} {v : Value} (hc : CellsAt w ad [v]) : (loadVar t ad).run P w = .ok v w := by
  have h0 : w.cell? ad = some v := by simpa [Addr.add] using hc 0 v rfl
  simp only [loadVar, Sem.run_bind, run_isAgg_false h ha, Result.andThen_ok, Bool.false_eq_true, if_false]
  exact run_load_cell h0

theorem asV_rel {F : Fx} {k : K} {t : Nat} {td : TD} (h : TDok P t td) {ty : Ty} {x : ty.den} {vs : List Value} {ad : Addr} (hr : Rd k.w (k.ok F) ty x vs) (hc : CellsAt k.w ad vs) (hs : ty.sz = td.sz) :
    ∃ v, (loadVar t ad).run P k.w = .ok v k.w ∧ relV F k (asV td.agg ty x) v := by
  cases ha : td.agg
  · have h1 := (h.noagg ha).1
    have hl := hr.length
    rw [hs, h1] at hl
    match vs, hl with
    | [v], _ => exact ⟨v, run_loadVar_one h ha hc, hr⟩
  · exact ⟨_, run_loadVar_agg h ha hc (hr.length.trans hs), vs, rfl, unpack_rel hr⟩

/-- A row of an own array, in its block. -/
theorem arr_row {F : Fx} {k : K} (hk : HeapOK F k) {id e : Nat} {r : Ty} {xs : List r.den} (h : k.h id = some (.arr e r xs)) {g n c : Nat} (hν : k.ν id = .slice (some ⟨g, 0, none⟩) n c) {j : Nat} (hj : j < xs.length) :
    ∃ cur u row v rest, k.w.heap[g]? = some (.cells cur.toArray e (0, 0)) ∧ cur = u ++ (row ++ v) ++ rest ∧ u.length = j * r.sz ∧ Rd k.w (k.ok F) r (xs.getD j r.dflt) row ∧ k.own id g ∧
      n = xs.length ∧ n ≤ c ∧ c ≤ maxLen ∧ cur.length = c * r.sz ∧ (u ++ (row ++ v)).length = n * r.sz ∧ F.B ≤ g ∧ xs.length ≤ lim ∧
      (∀ (ok' : Nat → Prop) x' c', (∀ b, k.ok F b → ok' b) → Rd k.w ok' r x' c' → RdRows k.w ok' r (xs.set j x') (u ++ (c' ++ v))) := by
  obtain ⟨vs, ho, hr, hl⟩ := hk.obj id _ h
  obtain ⟨u, row, v, rfl, hu, hrow, hset⟩ := hr.split j hj
  rcases ho.2 with ⟨hv, hn⟩ | ⟨g', cap, cur, hv, hB, hg, hnc, hcm, hcs, htk⟩
  · rw [hν] at hv; cases hv
  · rw [hν] at hv
    injection hv with h1 h2 h3
    injection h1 with h1
    injection h1 with h1
    subst h1 h2 h3
    refine ⟨cur.toList, u, row, v, cur.toList.drop (xs.length * r.sz), by simpa using hg, ?_, hu, hrow, by simp [K.own, h, hν, Value.ownBlock], rfl, hnc, hcm, by simpa using hcs, ho.1, hB, hl, hset⟩
    rw [← htk, List.take_append_drop]

theorem cells_in {w : World} {g : Nat} {T : TypeId} {fr : Nat × Nat} {u c v : List Value} (hg : w.heap[g]? = some (.cells (u ++ (c ++ v)).toArray T fr)) : CellsAt w ⟨g, u.length, none⟩ c := by
  intro i x hx
  rw [add_lit2]
  have hlt := (List.getElem?_eq_some_iff.1 hx).1
  simp only [World.cell?, hg, Option.isSome_none, Bool.false_eq_true, if_false]
  simp only [List.getElem?_toArray]
  rw [List.getElem?_append_right (by omega), Nat.add_sub_cancel_left, List.getElem?_append_left hlt]
  exact hx

theorem loadAt_sound {F : Fx} {k : K} (hk : HeapOK F k) {S : St} (hS : k.h = lkH S.H) {t : Nat} {td : TD} (htd : TDok P t td) {c : C} {v1 : V1} {R : List Nat} (h : Tells (loadAt td c) S v1 R) {pv : Value} (hp : relC F k c pv) :
    ∃ v, (Instr.loadAt t pv).run P k.w = .ok v k.w ∧ relV F k v1 v := by
  cases c with
  | pb id off =>
    obtain ⟨⟨cs, hcs⟩, rfl⟩ := hp
    unfold loadAt at h
    obtain ⟨o, R1, R2, h1, h2, _⟩ := tells_bind (Good.rdO _) (fun o => by
      cases o with
      | none => exact Good.fail
      | some o => cases o <;> first | exact Good.fail | exact Good.bind (Good.guard _) (fun _ => by split <;> first | exact Good.pure _ | exact Good.fail)) h
    obtain ⟨rfl, _⟩ := tells_rdO h1
    rw [← hS, hcs] at h2
    obtain ⟨_, R3, R4, h3, h4, _⟩ := tells_bind (Good.guard _) (fun _ => by split <;> first | exact Good.pure _ | exact Good.fail) h2
    have hfit := Nat.le_of_ble_eq_true (tells_guard h3).1
    obtain ⟨vs, T, hheap, hrel⟩ := hk.obj id _ hcs
    have hlen := hrel.length
    obtain ⟨_, hd⟩ := hrel.take off
    obtain ⟨ht, _⟩ := hd.take td.sz
    have hsplit : vs = vs.take off ++ ((vs.drop off).take td.sz ++ (vs.drop off).drop td.sz) := by rw [List.take_append_drop, List.take_append_drop]
    have hcell : CellsAt k.w ⟨k.μ id, off, none⟩ ((vs.drop off).take td.sz) := by
      rw [hsplit] at hheap
      have := cells_in hheap
      rwa [List.length_take, Nat.min_eq_left (by omega)] at this
    simp only [Instr.loadAt, Instr.sureAddr, Sem.run_bind, Sem.run_pure, Result.andThen_ok]
    cases ha : td.agg
    · rw [ha] at h4
      have h1 := (htd.noagg ha).1
      have hl : ((vs.drop off).take td.sz).length = 1 := by simp; omega
      generalize hcl : (cs.drop off).take td.sz = cl at h4 ht
      generalize (vs.drop off).take td.sz = vl at ht hcell hl
      match vl, hl with
      | [v], _ =>
        have := ht.length
        match cl, this with
        | [c], _ =>
          obtain ⟨rfl, _⟩ := tells_pure h4
          obtain ⟨v', vs', hv, hc, _⟩ := ht
          cases hv
          exact ⟨v, run_loadVar_one htd ha hcell, hc⟩
    · rw [ha] at h4
      obtain ⟨rfl, _⟩ := tells_pure h4
      exact ⟨_, run_loadVar_agg htd ha hcell (by simp; omega), _, rfl, ht⟩
  | pd ty x =>
    obtain ⟨ad, vs, rfl, hok, hrd, hc⟩ := hp
    unfold loadAt loadD at h
    obtain ⟨_, R3, R4, h3, h4, _⟩ := tells_bind (Good.guard _) (fun _ => Good.pure _) h
    have hs := Nat.eq_of_beq_eq_true (tells_guard h3).1
    obtain ⟨rfl, _⟩ := tells_pure h4
    simp only [Instr.loadAt, Instr.sureAddr, Sem.run_bind, Sem.run_pure, Result.andThen_ok]
    exact asV_rel htd hrd hc hs
  | pa id j p =>
    obtain ⟨_, hp⟩ := hp
    unfold loadAt at h
    obtain ⟨o, R1, R2, h1, h2, _⟩ := tells_bind (Good.rdO _) (fun o => by
      cases o with
      | none => exact Good.fail
      | some o => cases o <;> first | exact Good.fail | exact Good.bind (Good.ofOpt _) (fun _ => good_loadD _ _ _)) h
    obtain ⟨rfl, _⟩ := tells_rdO h1
    rw [← hS] at h2
    cases ho : k.h id with
    | none => rw [ho] at h2; exact (tells_fail h2).elim
    | some o =>
      rw [ho] at h2 hp
      cases o with
      | arr e r xs =>
        obtain ⟨hj0, hj1, g, n, c, t', o, hν, hpt, rfl⟩ := hp
        obtain ⟨d, R3, R4, h3, h4, _⟩ := tells_bind (Good.ofOpt _) (fun _ => good_loadD _ _ _) h2
        obtain ⟨hpr, _⟩ := tells_ofOpt h3
        unfold loadD at h4
        obtain ⟨_, R3, R4, h5, h6, _⟩ := tells_bind (Good.guard _) (fun _ => Good.pure _) h4
        have hs := Nat.eq_of_beq_eq_true (tells_guard h5).1
        obtain ⟨rfl, _⟩ := tells_pure h6
        obtain ⟨cur, u, row, v, rest, hg, rfl, hu, hrow, _⟩ := arr_row hk ho hν (j := j.toNat) (by omega)
        obtain ⟨o', hpt', u2, c2, v2, rfl, hu2, hc2, _⟩ := path_rd p hpr hrow
        rw [hpt] at hpt'
        cases hpt'
        have hcell : CellsAt k.w ⟨g, j.toNat * r.sz + u2.length, none⟩ c2 := by
          have hg' : k.w.heap[g]? = some (.cells ((u ++ u2) ++ (c2 ++ (v2 ++ v ++ rest))).toArray e (0, 0)) := by rw [hg]; simp
          have := cells_in hg'
          rwa [List.length_append, hu] at this
        simp only [Instr.loadAt, Instr.sureAddr, Sem.run_bind, Sem.run_pure, Result.andThen_ok]
        rw [← hu2]
        exact asV_rel htd hc2 hcell hs
      | box cs => exact (tells_fail h2).elim
      | imm r xs => exact (tells_fail h2).elim
      | gone => exact (tells_fail h2).elim
  | _ => exact (tells_fail h).elim

end mem
end Go.MC

/- Stores and addresses (general). -/
set_option linter.unusedVariables false
set_option linter.unusedSimpArgs false
namespace Go.MC
open Go.RowKit

theorem cells_oneCell {v : Value} (h : v.oneCell' = true) : v.cells = #[v] := by
  cases v <;> first | rfl | simp [Value.oneCell'] at h

theorem relV_cells {F : Fx} {k : K} {v1 : V1} {v : Value} (h : relV F k v1 v) (hn : v1.cells.all C.known = true) : ∃ vs, v.cells = vs.toArray ∧ relCs F k v1.cells vs := by
  cases v1 with
  | one c =>
    have hc : c.known = true := by simpa [V1.cells] using hn
    have ho := relC.oneCell (c := c) h hc
    exact ⟨[v], by rw [cells_oneCell ho], v, [], rfl, h, rfl⟩
  | agg cs =>
    obtain ⟨vs, rfl, hr⟩ := h
    exact ⟨vs, rfl, hr⟩

theorem put_put (k : K) (a b : List (Nat × Ob)) : ((k.put a).put b).h = (k.put (b ++ a)).h := by
  funext i
  simp only [K.put, lkH_append]
  cases lkH b i <;> simp

theorem splice_rel {F : Fx} {k : K} {cs ds : List C} {us vs : List Value} (h : relCs F k cs us) (h' : relCs F k ds vs) (off : Nat) : relCs F k (splice cs off ds) (us.take off ++ (vs ++ us.drop (off + vs.length))) := by
  unfold splice
  rw [h'.length]
  exact (h.take off).1.append (h'.append (h.take (off + ds.length)).2)

section mem
variable {P : Program}

theorem run_storeVar {t : Nat} {td : TD} (h : TDok P t td) {w : World} {ad : Addr} {v : Value} {vs : List Value} (hc : v.cells = vs.toArray) (hl : vs.length = td.sz) {w' : World} (hs : (storeCells ad vs).run P w = .ok () w') : (storeVar t ad v).run P w = .ok () w' := by
  simp [storeVar, run_sizeOf' h, hc, hl, hs]

def DoesU (P : Program) (F : Fx) (k : K) (s : Sem Unit) (U : Upd) : Prop :=
  ∃ k', s.run P k.w = .ok () k'.w ∧ k'.h = (k.put U.obs).h ∧ HeapOK F k' ∧ Le F k k' ∧ relA F k' U.val undef

theorem good_storeTail (td : TD) (id : Nat) (j : Int) (p : List (Nat × Nat)) (v : V1) (o : Option Ob) : Good (match o with
    | some (.arr e r xs) => M.bind (ofOpt (projT r (xs.getD j.toNat r.dflt) p)) fun d => M.bind (guardB (Nat.beq d.1.sz td.sz)) fun _ => M.bind (pack true d.1 v.cells) fun q =>
      M.bind (ofOpt (setP r (xs.getD j.toNat r.dflt) p ⟨d.1, q.1⟩)) fun y => M.bind (guardB (q.2.2.all fun z => !Nat.beq z.1 id)) fun _ =>
        M.pure ⟨.w (.one .u), (id, .arr e r (xs.set j.toNat y)) :: q.2.2⟩
    | _ => fail : M Upd) := by
  repeat' first
    | with_reducible exact Good.pure _
    | with_reducible exact Good.fail
    | with_reducible exact Good.guard _
    | with_reducible exact Good.ofOpt _
    | with_reducible exact good_pack _ _ _
    | (with_reducible refine Good.bind ?_ fun _ => ?_)
    | split

theorem storeAt_sound {F : Fx} {k : K} (hk : HeapOK F k) {S : St} (hS : k.h = lkH S.H) {t : Nat} {td : TD} (htd : TDok P t td) {c : C} {v1 : V1} {U : Upd} {R : List Nat} (h : Tells (storeAt td c v1) S U R) {pv xv : Value} (hp : relC F k c pv) (hx : relV F k v1 xv) :
    DoesU P F k (Instr.storeAt t pv xv) U := by
  unfold storeAt at h
  obtain ⟨_, R1, R2, h1, h2, _⟩ := tells_bind (Good.guard _) (fun _ => by
    repeat' first
      | with_reducible exact Good.pure _
      | with_reducible exact Good.fail
      | with_reducible exact Good.rdO _
      | with_reducible exact Good.guard _
      | with_reducible exact Good.ofOpt _
      | with_reducible exact good_pack _ _ _
      | (with_reducible refine Good.bind ?_ fun _ => ?_)
      | split
      | (dsimp only; split)) h
  have hg := (tells_guard h1).1
  simp only [Bool.and_eq_true] at hg
  have hsz := Nat.eq_of_beq_eq_true hg.1
  obtain ⟨vs, hcells, hrel⟩ := relV_cells hx hg.2
  have hvl : vs.length = td.sz := hrel.length.trans hsz
  have hone := hrel.oneCell hg.2
  cases c with
  | pb id off =>
    obtain ⟨⟨cs, hcs⟩, rfl⟩ := hp
    obtain ⟨o, R1, R2, h1, h2, _⟩ := tells_bind (Good.rdO _) (fun o => by
      cases o with
      | none => exact Good.fail
      | some o => cases o <;> first | exact Good.fail | exact Good.bind (Good.guard _) (fun _ => Good.pure _)) h2
    obtain ⟨rfl, _⟩ := tells_rdO h1
    rw [← hS, hcs] at h2
    obtain ⟨_, R3, R4, h3, h4, _⟩ := tells_bind (Good.guard _) (fun _ => Good.pure _) h2
    have hfit := Nat.le_of_ble_eq_true (tells_guard h3).1
    obtain ⟨rfl, _⟩ := tells_pure h4
    obtain ⟨us, T, hheap, hru⟩ := hk.obj id _ hcs
    have hlen := hru.length
    obtain ⟨w', hrun, hw1, hw2, hw3, hw4, hw5, hw6⟩ := store_cells P hheap (off := off) (vs := vs) (by omega) hone
    have hown : k.own id (k.μ id) := by simp [K.own, hcs]
    have := set_step hk (o' := .box (splice cs off v1.cells)) hcs (w' := w') hown (.inl ⟨_, _, rfl, rfl⟩) hw2 hw3 hw4 hw5 hw6 (fun hle => ⟨_, T, hw1, splice_rel (hle.cs hru) (hle.cs hrel) off⟩)
    refine ⟨⟨w', (k.put [(id, .box (splice cs off v1.cells))]).h, k.μ, k.ν⟩, ?_, rfl, this.1, this.2, trivial⟩
    simp only [Instr.storeAt, Instr.sureAddr, Sem.run_bind, Sem.run_pure, Result.andThen_ok]
    exact run_storeVar htd hcells hvl hrun
  | pa id j p =>
    obtain ⟨o, R1, R2, h1, h2, _⟩ := tells_bind (Good.rdO _) (fun o => good_storeTail td id j p v1 o) h2
    obtain ⟨rfl, _⟩ := tells_rdO h1
    obtain ⟨_, hp⟩ := hp
    rw [← hS] at h2
    cases ho : k.h id with
    | none => rw [ho] at h2; exact (tells_fail h2).elim
    | some o =>
      rw [ho] at h2 hp
      cases o with
      | arr e r xs =>
        obtain ⟨hj0, hj1, g, n, c, t', o, hν, hpt, rfl⟩ := hp
        obtain ⟨d, R3, R4, h3, h4, _⟩ := tells_bind (Good.ofOpt _) (fun _ => Good.bind (Good.guard _) fun _ => Good.bind (good_pack _ _ _) fun _ => Good.bind (Good.ofOpt _) fun _ => Good.bind (Good.guard _) fun _ => Good.pure _) h2
        obtain ⟨hpr, _⟩ := tells_ofOpt h3
        obtain ⟨_, R3, R4, h5, h6, _⟩ := tells_bind (Good.guard _) (fun _ => Good.bind (good_pack _ _ _) fun _ => Good.bind (Good.ofOpt _) fun _ => Good.bind (Good.guard _) fun _ => Good.pure _) h4
        have hds := Nat.eq_of_beq_eq_true (tells_guard h5).1
        obtain ⟨q, R3, R4, h7, h8, _⟩ := tells_bind (good_pack _ _ _) (fun _ => Good.bind (Good.ofOpt _) fun _ => Good.bind (Good.guard _) fun _ => Good.pure _) h6
        obtain ⟨y, R3, R4, h9, h10, _⟩ := tells_bind (Good.ofOpt _) (fun _ => Good.bind (Good.guard _) fun _ => Good.pure _) h8
        obtain ⟨hset, _⟩ := tells_ofOpt h9
        obtain ⟨_, R3, R4, h11, h12, _⟩ := tells_bind (Good.guard _) (fun _ => Good.pure _) h10
        have hnot := (tells_guard h11).1
        obtain ⟨rfl, _⟩ := tells_pure h12
        obtain ⟨l, u1, v1', hvs, _, htk, hrd, hfz, hz⟩ := pack_sound hk hS (x := q.1) (rest := q.2.1) (obs := q.2.2) h7 hrel
        have hu1 := hrd.length
        have hv0 : v1' = [] := List.eq_nil_of_length_eq_zero (by
          have := congrArg List.length hvs
          simp only [List.length_append] at this
          omega)
        subst hv0
        rw [List.append_nil] at hvs
        subst hvs
        obtain ⟨hk1, hle1, hok1⟩ := freeze hk hfz
        have hrd1 : Rd k.w ((k.put q.2.2).ok F) d.1 q.1 vs := hrd.mono (fun b hb => hok1 b (okT_mono (hz rfl) hb)) (fun _ _ _ => rfl)
        have ho1 : (k.put q.2.2).h id = some (.arr e r xs) := by
          have hn : lkH q.2.2 id = none := by
            cases hl : lkH q.2.2 id with
            | none => rfl
            | some o2 =>
              have := List.all_eq_true.1 hnot _ (lkH_some hl)
              simp [Nat.beq_refl] at this
          simp [K.put, hn, ho]
        have hjl : j.toNat < xs.length := by omega
        obtain ⟨cur, u, row, v, rest, hheap, rfl, hu, hrow, hown, hnx, hnc, hcm, hcl, hrl, hB, hxl, hreb⟩ := arr_row hk1 ho1 (g := g) (n := n) (c := c) hν hjl
        obtain ⟨o', hpt', u2, c2, v2, rfl, hu2, hc2, hs2⟩ := path_rd p hpr hrow
        rw [hpt] at hpt'
        cases hpt'
        obtain ⟨y', hset', hry⟩ := hs2 ((k.put q.2.2).ok F) q.1 vs (fun b hb => hb) hrd1
        rw [hset] at hset'
        cases hset'
        have hc2l := hc2.length
        obtain ⟨w', hrun, hw1, hw2, hw3, hw4, hw5, hw6⟩ := store_cells P hheap (off := j.toNat * r.sz + o) (vs := vs) (by simp only [List.length_append]; omega) hone
        have hnew : (u ++ (u2 ++ (c2 ++ v2) ++ v) ++ rest).take (j.toNat * r.sz + o) ++ (vs ++ (u ++ (u2 ++ (c2 ++ v2) ++ v) ++ rest).drop (j.toNat * r.sz + o + vs.length)) = (u ++ (u2 ++ (vs ++ v2) ++ v)) ++ rest := by
          have e1 : u ++ (u2 ++ (c2 ++ v2) ++ v) ++ rest = (u ++ u2) ++ (c2 ++ (v2 ++ (v ++ rest))) := by simp
          have hl1 : (u ++ u2).length = j.toNat * r.sz + o := by simp [hu, hu2]
          rw [e1, ← hl1, List.take_left, ← List.drop_drop, List.drop_left, show vs.length = c2.length by omega, List.drop_left]
          simp
        rw [hnew] at hw1
        have hk2 := set_step hk1 (o' := .arr e r (xs.set j.toNat y)) ho1 (w' := w') hown (.inr ⟨_, _, _, _, rfl, rfl, by simp⟩) hw2 hw3 hw4 hw5 hw6 (fun hle => by
          have hrows : RdRows k.w ((k.put q.2.2).ok F) r (xs.set j.toNat y) (u ++ (u2 ++ (vs ++ v2) ++ v)) := hreb _ y _ (fun b hb => hb) hry
          refine ⟨u ++ (u2 ++ (vs ++ v2) ++ v), ?_, hle.rdRows hrows, by simpa using hxl⟩
          refine ⟨hrows.length, .inr ⟨g, c, _, ?_, hB, hw1, by simpa [← hnx] using hnc, hcm, ?_, ?_⟩⟩
          · show k.ν id = _
            rw [hν, hnx]; simp
          · simp only [List.size_toArray]
            rw [← hcl]
            simp only [List.length_append]; omega
          · have hl := hrows.length
            simp only [List.toList_toArray]
            rw [← hl, List.take_left])
        refine ⟨_, ?_, ?_, hk2.1, hle1.trans hk2.2, trivial⟩
        · simp only [Instr.storeAt, Instr.sureAddr, Sem.run_bind, Sem.run_pure, Result.andThen_ok]
          exact run_storeVar htd hcells hvl hrun
        · exact put_put _ _ _
      | box cs => exact (tells_fail h2).elim
      | imm r xs => exact (tells_fail h2).elim
      | gone => exact (tells_fail h2).elim
  | _ => exact (tells_fail h2).elim

end mem
end Go.MC

/- Addresses, new blocks, slices (general). -/
set_option linter.unusedVariables false
set_option linter.unusedSimpArgs false
namespace Go.MC
open Go.RowKit

section mem
variable {P : Program}

theorem fieldAddrAt_sound {F : Fx} {k : K} (hk : HeapOK F k) {S : St} (hS : k.h = lkH S.H) {t : Nat} {td : TD} (htd : TDok P t td) {c c' : C} {j : Nat} {R : List Nat} (h : Tells (fieldAddrAt td c j) S c' R) {pv : Value} (hp : relC F k c pv) :
    ∃ v, (Instr.fieldAt t pv j).run P k.w = .ok v k.w ∧ relC F k c' v := by
  unfold fieldAddrAt at h
  obtain ⟨f, R1, R2, h1, h2, _⟩ := tells_bind (Good.ofOpt _) (fun _ => by
    repeat' first
      | with_reducible exact Good.pure _
      | with_reducible exact Good.fail
      | with_reducible exact Good.rdO _
      | with_reducible exact Good.guard _
      | with_reducible exact Good.ofOpt _
      | (with_reducible refine Good.bind ?_ fun _ => ?_)
      | split
      | (dsimp only; split)) h
  obtain ⟨hf, _⟩ := tells_ofOpt h1
  have hagg : td.agg = true := by
    cases ha : td.agg
    · rw [(htd.noagg ha).2.1] at hf; simp at hf
    · rfl
  obtain ⟨fs, hu, hfl⟩ := htd.agg hagg
  have hfs : ∃ fd, fs[j]? = some fd ∧ fd.type = f.1 ∧ fd.offset = f.2 := by
    rw [← hfl] at hf
    simp only [List.getElem?_map, Option.map_eq_some_iff] at hf
    obtain ⟨fd, h3, h4⟩ := hf
    exact ⟨fd, by simpa using h3, by rw [← h4], by rw [← h4]⟩
  obtain ⟨fd, hfd, hty, hoff⟩ := hfs
  obtain ⟨ti, hti, hpos⟩ := htd.fld f (List.mem_of_getElem? hf)
  have hrun : ∀ ad : Addr, (Instr.fieldAt t (.pointer (some ad)) j).run P k.w = .ok (.pointer (some (ad.add f.2))) k.w := by
    intro ad
    have hsz : (sizeOf fd.type).run P k.w = .ok ti.size k.w := by simp [sizeOf, typeInfo, hty, hti]
    have hne : ti.size ≠ 0 := by omega
    simp [Instr.fieldAt, run_underlying hu, hfd, Instr.sureAddr, fieldPlace, hsz, hne, hoff]
  cases c with
  | pb id off =>
    obtain ⟨rfl, _⟩ := tells_pure h2
    obtain ⟨hb, rfl⟩ := hp
    exact ⟨_, hrun _, hb, by rw [add_lit2]⟩
  | pd ty x =>
    obtain ⟨ad, vs, rfl, hok, hrd, hc⟩ := hp
    obtain ⟨d, R3, R4, h3, h4, _⟩ := tells_bind (Good.ofOpt _) (fun _ => Good.bind (Good.guard _) fun _ => Good.pure _) h2
    obtain ⟨hd, _⟩ := tells_ofOpt h3
    obtain ⟨_, R3, R4, h5, h6, _⟩ := tells_bind (Good.guard _) (fun _ => Good.pure _) h4
    have ho := Nat.eq_of_beq_eq_true (tells_guard h5).1
    obtain ⟨rfl, _⟩ := tells_pure h6
    obtain ⟨_, u, c, v, rfl, hul, hcr, _⟩ := fld_rd j hd hrd
    refine ⟨_, hrun _, ad.add f.2, c, rfl, by rw [add_block]; exact hok, hcr, ?_⟩
    rw [← ho, ← hul]
    exact (CellsAt.append.1 (CellsAt.append.1 hc).2).1
  | pa id i p =>
    obtain ⟨hpt, hp⟩ := hp
    obtain ⟨o, R1, R2, h3, h4, _⟩ := tells_bind (Good.rdO _) (fun o => by
      cases o with
      | none => exact Good.fail
      | some o => cases o <;> first | exact Good.fail | exact Good.bind (Good.ofOpt _) (fun _ => Good.bind (Good.ofOpt _) fun _ => Good.bind (Good.guard _) fun _ => Good.pure _)) h2
    obtain ⟨rfl, _⟩ := tells_rdO h3
    rw [← hS] at h4
    cases ho : k.h id with
    | none => rw [ho] at h4; exact (tells_fail h4).elim
    | some o =>
      rw [ho] at h4 hp
      cases o with
      | arr e r xs =>
        obtain ⟨hj0, hj1, g, n, c, t', o, hν, hpt', rfl⟩ := hp
        obtain ⟨d, R3, R4, h5, h6, _⟩ := tells_bind (Good.ofOpt _) (fun _ => Good.bind (Good.ofOpt _) fun _ => Good.bind (Good.guard _) fun _ => Good.pure _) h4
        obtain ⟨hd, _⟩ := tells_ofOpt h5
        obtain ⟨d2, R3, R4, h7, h8, _⟩ := tells_bind (Good.ofOpt _) (fun _ => Good.bind (Good.guard _) fun _ => Good.pure _) h6
        obtain ⟨hd2, _⟩ := tells_ofOpt h7
        obtain ⟨_, R3, R4, h9, h10, _⟩ := tells_bind (Good.guard _) (fun _ => Good.pure _) h8
        have hoo := Nat.eq_of_beq_eq_true (tells_guard h9).1
        obtain ⟨rfl, _⟩ := tells_pure h10
        obtain ⟨cur, u, row, v, rest, hheap, rfl, hu2, hrow, _⟩ := arr_row hk ho hν (j := i.toNat) (by omega)
        obtain ⟨o', hp3, u3, c3, v3, rfl, hu3, hc3, _⟩ := path_rd p hd hrow
        rw [hpt'] at hp3
        cases hp3
        obtain ⟨hty2, _⟩ := fld_rd j hd2 hc3
        refine ⟨_, hrun _, ⟨_, rfl⟩, ?_⟩
        rw [ho]
        refine ⟨hj0, hj1, g, n, c, d2.1, o + offT d.1 td.flds.length j, hν, pathTy_append p hpt' hty2, ?_⟩
        rw [add_lit2, hoo, Nat.add_assoc]
      | box cs => exact (tells_fail h4).elim
      | imm r xs => exact (tells_fail h4).elim
      | gone => exact (tells_fail h4).elim
  | _ => exact (tells_fail h2).elim

theorem run_indexAt_sl {t e : Nat} {te : TD} (hu : P.underlying t = some (.slice e)) (hte : TDok P e te) {w : World} {ad : Addr} {n c : Nat} {kk : IntKind} {i : Int} (h0 : 0 ≤ i) (h1 : i < (n : Int)) :
    (Instr.indexAt t (.slice (some ad) n c) (.int kk i)).run P w = .ok (.pointer (some (ad.add (i.toNat * te.sz)))) w := by
  simp [Instr.indexAt, asIntOf, run_underlying hu, h0, h1, run_sizeOf' hte]

theorem inRange_sound {i : Int} {n : Nat} {S : St} {u : Unit} {R : List Nat} (h : Tells (inRange i n) S u R) : 0 ≤ i ∧ i < (n : Int) := by
  unfold inRange at h
  obtain ⟨_, R1, R2, h1, h2, _⟩ := tells_bind (Good.guard _) (fun _ => Good.guard _) h
  exact ⟨of_decide_eq_true (tells_guard h1).1, of_decide_eq_true (tells_guard h2).1⟩

theorem indexAddrAt_sound {F : Fx} {k : K} (hk : HeapOK F k) {S : St} (hS : k.h = lkH S.H) {t e : Nat} {te : TD} (hu : P.underlying t = some (.slice e)) (hte : TDok P e te) {c c' : C} {i : Int} {R : List Nat} (h : Tells (indexAddrAt te c i) S c' R) {pv : Value} (hp : relC F k c pv) (kk : IntKind) :
    ∃ v, (Instr.indexAt t pv (.int kk i)).run P k.w = .ok v k.w ∧ relC F k c' v := by
  have imm : ∀ {r : Ty} {xs : List r.den} {pv : Value} {R : List Nat}, Rd k.w (k.ok F) (.slice r) xs [pv] →
      Tells (M.bind (inRange i xs.length) fun _ => M.bind (guardB (Nat.beq r.sz te.sz)) fun _ => M.pure (.pd r (xs.getD i.toNat r.dflt))) S c' R → ∃ v, (Instr.indexAt t pv (.int kk i)).run P k.w = .ok v k.w ∧ relC F k c' v := by
    intro r xs pv R hp h
    obtain ⟨_, R1, R2, h1, h2, _⟩ := tells_bind (good_inRange _ _) (fun _ => Good.bind (Good.guard _) fun _ => Good.pure _) h
    obtain ⟨h3, h4⟩ := inRange_sound h1
    obtain ⟨_, R1, R2, h5, h6, _⟩ := tells_bind (Good.guard _) (fun _ => Good.pure _) h2
    have hs := Nat.eq_of_beq_eq_true (tells_guard h5).1
    obtain ⟨rfl, _⟩ := tells_pure h6
    obtain ⟨a, cap, hv, hc, hl⟩ := hp.slice_form
    simp only [List.cons.injEq, and_true] at hv
    subst hv
    obtain ⟨_, ad, cs, rfl, hok, hr, hcell⟩ := hp.at (j := i.toNat) (by omega)
    refine ⟨_, run_indexAt_sl hu hte h3 h4, ad.add (i.toNat * te.sz), cs, rfl, by rw [add_block]; exact hok, hr, ?_⟩
    rw [← hs]
    exact hcell
  cases c with
  | v ty x =>
    cases ty with
    | slice r => exact imm hp h
    | _ => exact (tells_fail h).elim
  | arr id =>
    unfold indexAddrAt at h
    obtain ⟨o, R1, R2, h1, h2, _⟩ := tells_bind (Good.rdO _) (fun o => by
      cases o with
      | none => exact Good.fail
      | some o => cases o <;> first | exact Good.fail | exact Good.bind (good_inRange _ _) (fun _ => Good.bind (Good.guard _) fun _ => Good.pure _)) h
    obtain ⟨rfl, _⟩ := tells_rdO h1
    obtain ⟨_, hp⟩ := hp
    rw [← hS] at h2
    cases ho : k.h id with
    | none => rw [ho] at h2; exact (tells_fail h2).elim
    | some o =>
      rw [ho] at h2 hp
      cases o with
      | arr e' r xs =>
        obtain ⟨_, R1, R2, h1, h2, _⟩ := tells_bind (good_inRange _ _) (fun _ => Good.bind (Good.guard _) fun _ => Good.pure _) h2
        obtain ⟨h3, h4⟩ := inRange_sound h1
        obtain ⟨_, R1, R2, h5, h6, _⟩ := tells_bind (Good.guard _) (fun _ => Good.pure _) h2
        have hs := Nat.eq_of_beq_eq_true (tells_guard h5).1
        obtain ⟨rfl, _⟩ := tells_pure h6
        obtain rfl : pv = k.ν id := hp
        obtain ⟨vs, hown, _⟩ := hk.obj id _ ho
        rcases hown.2 with ⟨_, hn⟩ | ⟨g, cap, cur, hv, _⟩
        · omega
        · rw [hv]
          refine ⟨_, run_indexAt_sl hu hte h3 h4, ⟨_, rfl⟩, ?_⟩
          rw [ho]
          exact ⟨h3, h4, g, _, cap, r, 0, hv, rfl, by rw [add_lit, hs, Nat.add_zero]⟩
      | imm r xs =>
        obtain rfl : pv = k.ν id := hp
        exact imm (hk.obj id _ ho) h2
      | box cs => exact (tells_fail h2).elim
      | gone => exact (tells_fail h2).elim
  | _ => exact (tells_fail h).elim

/-- A new variable out of cells. -/
theorem newVar_does {F : Fx} {k : K} (hk : HeapOK F k) {id : Nat} (hid : k.h id = none) {T : TypeId} {v : Value} {cs : List C} {vs : List Value} (hv : v.cells = vs.toArray) (hr : relCs F k cs vs) :
    Does P F k (do pure (.pointer (some (← newVar T v)))) ⟨.w (.one (.pb id 0)), [(id, .box cs)]⟩ := by
  obtain ⟨k', h1, h2, h3, h4, h5⟩ := new_box hk hid (T := T) hr
  refine ⟨_, k', ?_, h2, h3, h4, h5⟩
  rw [h1]
  simp [newVar, newRow, hv]

theorem alloc_does {F : Fx} {k : K} (hk : HeapOK F k) {id : Nat} (hid : k.h id = none) {t : Nat} {td : TD} (htd : TDok P t td) :
    Does P F k (Instr.alloc t true (.tuple #[])) ⟨.w (.one (.pb id 0)), [(id, .box td.zero)]⟩ := by
  obtain ⟨ti, z, hi, _, _, hz, _, hrel, _⟩ := htd.info
  obtain ⟨v, k', h1, h2⟩ := newVar_does (P := P) (T := t) hk hid (v := z) (cs := td.zero) (vs := z.cells.toList) (by simp) (hrel F k)
  refine ⟨v, k', ?_, h2⟩
  rw [← h1]
  simp [Instr.alloc, zeroValue, typeInfo, hi, hz]

theorem V1_cells_rel {F : Fx} {k : K} {v1 : V1} {v : Value} (h : relV F k v1 v) : (∃ vs, v.cells = vs.toArray ∧ relCs F k v1.cells vs) ∨ (∃ c, v1 = .one c) := by
  cases v1 with
  | one c => exact .inr ⟨c, rfl⟩
  | agg cs =>
    obtain ⟨vs, rfl, hr⟩ := h
    exact .inl ⟨vs, rfl, hr⟩

end mem
end Go.MC

/- append, make, literals (general). -/
set_option linter.unusedVariables false
set_option linter.unusedSimpArgs false
namespace Go.MC
open Go.RowKit

theorem lim_max : lim ≤ maxLen := by decide

section mem
variable {P : Program}

theorem rowsOf_sound {F : Fx} {k : K} (hk : HeapOK F k) {S : St} (hS : k.h = lkH S.H) {c : C} {o : Option (Sigma (fun r : Ty => List r.den))} {R : List Nat} (h : Tells (rowsOf c) S o R) {v : Value} (hv : relC F k c v) :
    match o with
    | none => v = .slice none 0 0
    | some p => ∃ vs a cap, RdRows k.w (k.ok F) p.1 p.2 vs ∧ v = .slice a p.2.length cap ∧ (p.2 ≠ [] → ∃ ad, a = some ad ∧ CellsAt k.w ad vs) ∧ p.2.length ≤ cap ∧ p.2.length ≤ lim := by
  have imm : ∀ {r : Ty} {xs : List r.den} {v : Value}, Rd k.w (k.ok F) (.slice r) xs [v] → ∃ vs a cap, RdRows k.w (k.ok F) r xs vs ∧ v = .slice a xs.length cap ∧ (xs ≠ [] → ∃ ad, a = some ad ∧ CellsAt k.w ad vs) ∧ xs.length ≤ cap ∧ xs.length ≤ lim := by
    intro r xs v hv
    obtain ⟨a, cap, hv', hc, hl⟩ := hv.slice_form
    simp only [List.cons.injEq, and_true] at hv'
    subst hv'
    obtain ⟨vs, h1, _, h2⟩ := hv.rows
    exact ⟨vs, a, cap, h1, rfl, fun hne => let ⟨ad, h3, _, h4⟩ := h2 hne; ⟨ad, h3, h4⟩, hc, hl⟩
  cases c with
  | v t x =>
    cases t with
    | slice r => obtain ⟨rfl, _⟩ := tells_pure h; exact imm hv
    | _ => exact (tells_fail h).elim
  | emp => obtain ⟨rfl, _⟩ := tells_pure h; exact hv
  | arr id =>
    unfold rowsOf at h
    obtain ⟨o', R1, R2, h1, h2, _⟩ := tells_bind (Good.rdO _) (fun o => by
      cases o with
      | none => exact Good.fail
      | some o => cases o <;> first | exact Good.fail | exact Good.pure _) h
    obtain ⟨rfl, _⟩ := tells_rdO h1
    obtain ⟨_, hv⟩ := hv
    rw [← hS] at h2
    cases ho : k.h id with
    | none => rw [ho] at h2; exact (tells_fail h2).elim
    | some o =>
      rw [ho] at h2 hv
      cases o with
      | arr e r xs =>
        obtain ⟨rfl, _⟩ := tells_pure h2
        obtain rfl : v = k.ν id := hv
        obtain ⟨vs, hown, hr, hl⟩ := hk.obj id _ ho
        rcases hown.2 with ⟨h3, h4⟩ | ⟨g, cap, cur, h3, _, _, hnc, _⟩
        · exact ⟨vs, none, 0, hr, by rw [h3]; simp [h4], fun hne => absurd (List.eq_nil_of_length_eq_zero h4) hne, by simp [h4], hl⟩
        · exact ⟨vs, some ⟨g, 0, none⟩, cap, hr, h3, fun _ => ⟨_, rfl, hown.cells (g := g) (by rw [h3]; rfl)⟩, hnc, hl⟩
      | imm r xs =>
        obtain ⟨rfl, _⟩ := tells_pure h2
        obtain rfl : v = k.ν id := hv
        exact imm (hk.obj id _ ho)
      | box cs => exact (tells_fail h2).elim
      | gone => exact (tells_fail h2).elim
  | _ => exact (tells_fail h).elim

theorem run_append_none' (base : Nat) (t ty e : TypeId) (i : TypeInfo) (size : Nat) {w : World} (ht : P.underlying t = some (.slice e)) (hi : P.info? e = some i)
    (v : Value) (n c : Nat) (xs : List Value) (hown : w.ownsRow base e size v n xs) : (Builtin.append_ #[t, t] ty #[v, .slice none 0 c]).run P w = .ok v w := by
  rcases hown.2 with ⟨rfl, rfl⟩ | ⟨g, cap, cur, rfl, _, _, hnc, _⟩
  · simp [Builtin.append_, run_underlying ht, sizeOf, typeInfo, hi, Builtin.lenOf, Builtin.firstCells]
  · simp [Builtin.append_, run_underlying ht, sizeOf, typeInfo, hi, Builtin.lenOf, Builtin.firstCells, hnc, storeCells]

/-- The machine's append, to a row of the call's own. -/
theorem append_run {F : Fx} {k : K} (hk : HeapOK F k) {t e ty : Nat} {te : TD} (ht : P.underlying t = some (.slice e)) (hte : TDok P e te) {size : Nat} (hsz : size = te.sz) {v : Value} {n : Nat} {us : List Value} (hown : k.w.ownsRow F.B e size v n us)
    {m cap : Nat} {a : Option Addr} {vs : List Value} (hl : vs.length = m * size) (hat : m ≠ 0 → ∃ ad, a = some ad ∧ CellsAt k.w ad vs) (h1 : ∀ u ∈ vs, u.oneCell' = true) (hb : (n + m) * te.bytes ≤ lim) (hnm : n + m ≤ maxLen) :
    ∃ v' w', (Builtin.append_ #[t, t] ty #[v, .slice a m cap]).run P k.w = .ok v' w' ∧ w'.ownsRow F.B e size v' (n + m) (us ++ vs) ∧ k.w.grownBy w' v.ownBlock ∧ (v'.ownBlock = v.ownBlock ∨ v'.ownBlock = some k.w.heap.size) := by
  obtain ⟨ti, z, hi, hs1, hs2, hz, hzc, _⟩ := hte.info
  by_cases hm : m = 0
  · subst hm
    have hv0 : vs = [] := List.eq_nil_of_length_eq_zero (by simpa using hl)
    subst hv0
    cases a with
    | none => exact ⟨v, k.w, run_append_none' F.B t ty e ti size ht hi v n cap us hown, by simpa using hown, ⟨rfl, rfl, rfl, Nat.le_refl _, fun _ _ _ => rfl⟩, .inl rfl⟩
    | some ad =>
      obtain ⟨v', w', hr, ho, hg, _, hat'⟩ := run_append_own_at (P := P) k.w F.B t ty e ti z size te.bytes ht hi hz (hs1.trans hsz.symm) hs2 (hzc.trans hsz.symm) (hsz ▸ hte.pos) v n us hown ad 0 cap [] (by simp) (by simp) (by simp) hnm hb hk.size
      exact ⟨v', w', hr, ho, hg, hat'⟩
  · obtain ⟨ad, rfl, hc⟩ := hat hm
    obtain ⟨v', w', hr, ho, hg, _, hat'⟩ := run_append_own_at (P := P) k.w F.B t ty e ti z size te.bytes ht hi hz (hs1.trans hsz.symm) hs2 (hzc.trans hsz.symm) (hsz ▸ hte.pos) v n us hown ad m cap vs hl hc h1 hnm hb hk.size
    exact ⟨v', w', hr, ho, hg, hat'⟩

/-- What it leaves: a row under a new number; the old number is gone. -/
theorem append_step {F : Fx} {k : K} (hk : HeapOK F k) {dst : Nat} (hd : k.h dst = none) {e : Nat} {r : Ty} {zs : List r.den} {ws : List Value} {v v' : Value} {w' : World} (obs : List (Nat × Ob))
    (hobs : obs = [] ∧ v.ownBlock = none ∨ ∃ id xs, obs = [(id, .gone)] ∧ k.h id = some (.arr e r xs) ∧ v = k.ν id)
    (hown : w'.ownsRow F.B e r.sz v' zs.length ws) (hr : RdRows k.w (k.ok F) r zs ws) (hl : zs.length ≤ lim) (hg : k.w.grownBy w' v.ownBlock) (hat : v'.ownBlock = v.ownBlock ∨ v'.ownBlock = some k.w.heap.size) (hsl : ∃ a c, v' = .slice a zs.length c) :
    ∃ k', k'.w = w' ∧ k'.h = (k.put ((dst, .arr e r zs) :: obs)).h ∧ HeapOK F k' ∧ Le F k k' ∧ relC F k' (.arr dst) v' := by
  have hne : ∀ p ∈ obs, p.1 ≠ dst := by
    rcases hobs with ⟨rfl, _⟩ | ⟨id, xs, rfl, h1, _⟩
    · simp
    · intro p hp
      simp at hp
      subst hp
      rintro rfl
      rw [hd] at h1
      cases h1
  have hh : ∀ i, (k.put ((dst, .arr e r zs) :: obs)).h i = if i = dst then some (.arr e r zs) else (lkH obs i).or (k.h i) := by
    intro i
    show (lkH ([(dst, Ob.arr e r zs)] ++ obs) i).or (k.h i) = _
    rw [lkH_append, lkH_one]
    split <;> simp
  have hgone : ∀ i, (lkH obs i = none) ∨ (lkH obs i = some .gone ∧ ∃ xs, k.h i = some (.arr e r xs) ∧ v = k.ν i) := by
    intro i
    rcases hobs with ⟨rfl, _⟩ | ⟨id, xs, rfl, h1, h2⟩
    · exact .inl rfl
    · rw [lkH_one]
      by_cases hi : i = id
      · subst hi; exact .inr ⟨by simp, xs, h1, h2⟩
      · exact .inl (by simp [hi])
  let k' : K := ⟨w', (k.put ((dst, .arr e r zs) :: obs)).h, k.μ, fun i => if i = dst then v' else k.ν i⟩
  have hown' : ∀ i b, k'.own i b → (i = dst ∧ v'.ownBlock = some b) ∨ (i ≠ dst ∧ lkH obs i = none ∧ k.own i b) := by
    intro i b hb
    unfold K.own at hb
    simp only [k', hh] at hb
    by_cases hi : i = dst
    · subst hi
      simp only [if_pos] at hb
      exact .inl ⟨rfl, hb⟩
    · simp only [if_neg hi] at hb
      rcases hgone i with h1 | ⟨h1, _⟩
      · rw [h1] at hb
        simp only [Option.none_or] at hb
        exact .inr ⟨hi, h1, by unfold K.own; exact hb⟩
      · rw [h1] at hb
        exact hb.elim
  have hvb : ∀ b, v'.ownBlock = some b → (b = k.w.heap.size) ∨ (∃ id, k.own id b ∧ lkH obs id ≠ none) := by
    intro b hb
    rcases hat with h1 | h1
    · rcases hobs with ⟨_, h2⟩ | ⟨id, xs, rfl, h2, h3⟩
      · rw [h1, h2] at hb; cases hb
      · refine .inr ⟨id, ?_, by simp [lkH_one]⟩
        unfold K.own
        rw [h2]
        show (k.ν id).ownBlock = some b
        rw [← h3, ← h1]; exact hb
    · rw [h1] at hb
      exact .inl (Option.some.inj hb).symm
  have hvr : ∀ i b, k.own i b → v.ownBlock = some b → lkH obs i ≠ none := by
    intro i b hb hv
    rcases hobs with ⟨_, h2⟩ | ⟨id, xs, rfl, h2, h3⟩
    · rw [h2] at hv; cases hv
    · have : k.own id b := by unfold K.own; rw [h2]; show (k.ν id).ownBlock = some b; rw [← h3]; exact hv
      obtain rfl := hk.inj i id b hb this
      simp [lkH_one]
  have hblk : ∀ i b, k.own i b → lkH obs i = none → w'.heap[b]? = k.w.heap[b]? := by
    intro i b hb hn
    exact hg.block b (hk.rng i b hb).2 (fun hv => hvr i b hb hv.symm hn)
  have hokb : ∀ b, k.ok F b → b < k.w.heap.size → w'.heap[b]? = k.w.heap[b]? := by
    intro b hb hlt
    refine hg.block b hlt (fun hv => ?_)
    rcases hobs with ⟨_, h2⟩ | ⟨id, xs, rfl, h2, h3⟩
    · rw [h2] at hv; cases hv
    · exact K.ok_own hk hb id (by unfold K.own; rw [h2]; show (k.ν id).ownBlock = some b; rw [← h3]; exact hv.symm)
  have hle : Le F k k' := by
    refine ⟨hg.size, fun b hb => ?_, hokb, fun i cs h => ?_, fun i e' r' xs h => ?_, fun i r' xs h => ?_, fun i h => ?_⟩
    · rcases hb with hb | ⟨h1, h2, h3⟩
      · exact .inl hb
      · refine .inr ⟨h1, Nat.lt_of_lt_of_le h2 hg.size, fun i hi => ?_⟩
        rcases hown' i b hi with ⟨rfl, h4⟩ | ⟨_, _, h4⟩
        · rcases hvb b h4 with rfl | ⟨id, h5, _⟩
          · omega
          · exact h3 id h5
        · exact h3 i h4
    · have hi : i ≠ dst := by rintro rfl; rw [hd] at h; cases h
      rcases hgone i with h1 | ⟨_, xs, h1, _⟩
      · exact ⟨⟨cs, by show (k.put _).h i = _; rw [hh, if_neg hi, h1]; simpa using h⟩, rfl⟩
      · rw [h] at h1; cases h1
    · have hi : i ≠ dst := by rintro rfl; rw [hd] at h; cases h
      rcases hgone i with h1 | ⟨h1, _⟩
      · exact .inl ⟨xs, by show (k.put _).h i = _; rw [hh, if_neg hi, h1]; simpa using h, rfl, by show (if i = dst then v' else k.ν i) = _; rw [if_neg hi]⟩
      · exact .inr (.inr (by show (k.put _).h i = _; rw [hh, if_neg hi, h1]; rfl))
    · have hi : i ≠ dst := by rintro rfl; rw [hd] at h; cases h
      rcases hgone i with h1 | ⟨_, xs, h1, _⟩
      · exact ⟨r', xs, by show (k.put _).h i = _; rw [hh, if_neg hi, h1]; simpa using h, by show (if i = dst then v' else k.ν i) = _; rw [if_neg hi]⟩
      · rw [h] at h1; cases h1
    · have hi : i ≠ dst := by rintro rfl; rw [hd] at h; cases h
      rcases hgone i with h1 | ⟨_, xs, h1, _⟩
      · show (k.put _).h i = _; rw [hh, if_neg hi, h1]; simpa using h
      · rw [h] at h1; cases h1
  refine ⟨k', rfl, rfl, ?_, hle, ?_⟩
  · refine hk.step' hle (fun i o h => ?_) (fun i j b h1 h2 => ?_) (fun i b h => ?_) (fun b hb he => ?_) hg.os hg.tape hg.output
    · have h' : (if i = dst then some (Ob.arr e r zs) else (lkH obs i).or (k.h i)) = some o := (hh i) ▸ h
      by_cases hi : i = dst
      · rw [if_pos hi] at h'
        cases h'
        refine .inr ⟨ws, ?_, hle.rdRows hr, hl⟩
        show w'.ownsRow F.B e r.sz (if i = dst then v' else k.ν i) zs.length ws
        rw [if_pos hi]
        exact hown
      · rw [if_neg hi] at h'
        rcases hgone i with h1 | ⟨h1, _⟩
        · rw [h1] at h'
          exact .inl ⟨by simpa using h', fun b hb => hblk i b hb h1⟩
        · rw [h1] at h'
          cases h'
          exact .inr trivial
    · rcases hown' i b h1 with ⟨rfl, h3⟩ | ⟨_, hn, h3⟩
      · rcases hown' j b h2 with ⟨rfl, _⟩ | ⟨_, hn2, h4⟩
        · rfl
        · rcases hvb b h3 with rfl | ⟨id, h5, h6⟩
          · have := (hk.rng j _ h4).2; omega
          · obtain rfl := hk.inj id j b h5 h4
            exact absurd hn2 h6
      · rcases hown' j b h2 with ⟨rfl, h4⟩ | ⟨_, _, h4⟩
        · rcases hvb b h4 with rfl | ⟨id, h5, h6⟩
          · have := (hk.rng i _ h3).2; omega
          · obtain rfl := hk.inj id i b h5 h3
            exact absurd hn h6
        · exact hk.inj i j b h3 h4
    · rcases hown' i b h with ⟨rfl, h3⟩ | ⟨_, _, h3⟩
      · have := hown.lt b h3
        exact ⟨.inl this.1, this.2⟩
      · have := hk.rng i b h3
        exact ⟨this.1, Nat.lt_of_lt_of_le this.2 hg.size⟩
    · refine hg.block b (Nat.lt_of_lt_of_le hb hk.size) (fun hv => ?_)
      rcases hobs with ⟨_, h2⟩ | ⟨id, xs, rfl, h2, h3⟩
      · rw [h2] at hv; cases hv
      · obtain ⟨vs, ho, _⟩ := hk.obj id _ h2
        have := ho.lt b (by rw [← h3]; exact hv.symm)
        omega
  · obtain ⟨a, c, rfl⟩ := hsl
    refine ⟨⟨a, _, c, rfl⟩, ?_⟩
    show (match (k.put ((dst, .arr e r zs) :: obs)).h dst with
      | some (.arr ..) => _
      | some (.imm ..) => _
      | some .gone => True
      | _ => False)
    rw [hh, if_pos rfl]
    show _ = if dst = dst then _ else _
    rw [if_pos rfl]

end mem
end Go.MC

/- Operands; append, make, literals: what the interpreter tells of them holds (general). -/
set_option linter.unusedVariables false
set_option linter.unusedSimpArgs false
namespace Go.MC
open Go.RowKit

/-- Slots as they are told. -/
def FrR (F : Fx) (k : K) (fr : List (Nat × AV)) (a : Act) : Prop := ∀ t, relA F k (lkF fr t) (a.eval (.tmp t))

theorem Le.a' {F : Fx} {k k' : K} (h : Le F k k') {c : AV} {v : Value} (hr : relA F k c v) : relA F k' c v := h.a hr
theorem FrR.le {F : Fx} {k k' : K} (h : Le F k k') {fr : List (Nat × AV)} {a : Act} (hf : FrR F k fr a) : FrR F k' fr a := fun t => h.a' (hf t)

theorem constC_rel (F : Fx) (k : K) (v : Value) : relC F k (constC v) v := by
  unfold constC
  split
  · rfl
  · rename_i kk n
    cases h : okInt kk n
    · exact trivial
    · refine ⟨rfl, ?_⟩
      simpa [okInt, IntKind.has] using h
  · rename_i s
    cases h : Nat.ble s.data.toList.length lim
    · exact trivial
    · refine ⟨?_, Nat.le_of_ble_eq_true h⟩
      rfl
  · rfl
  · exact trivial

theorem opd_sound {F : Fx} {k : K} {S : St} {a : Act} (hf : FrR F k S.fr a) {x : Operand} {v : AV} {R : List Nat} (h : Tells (opd x) S v R) : relA F k v (a.eval x) := by
  cases x with
  | tmp t => obtain ⟨rfl, _⟩ := tells_rdS h; exact hf t
  | const c => obtain ⟨rfl, _⟩ := tells_pure h; exact constC_rel F k c
  | func f =>
    obtain ⟨rfl, _⟩ := tells_pure h
    exact ⟨fun _ hi => by simp at hi, rfl⟩
  | global g => exact (tells_fail h).elim
theorem opC_sound {F : Fx} {k : K} {S : St} {a : Act} (hf : FrR F k S.fr a) {x : Operand} {c : C} {R : List Nat} (h : Tells (opC x) S c R) : relC F k c (a.eval x) := by
  obtain ⟨v, R1, R2, h1, h2, _⟩ := tells_bind (good_opd x) good_asC h
  have hv := opd_sound hf h1
  cases v with
  | w v =>
    cases v with
    | one c' => obtain ⟨rfl, _⟩ := tells_pure h2; exact hv
    | agg cs => exact (tells_fail h2).elim
  | tup vs => exact (tells_fail h2).elim
theorem opV_sound {F : Fx} {k : K} {S : St} {a : Act} (hf : FrR F k S.fr a) {x : Operand} {c : V1} {R : List Nat} (h : Tells (opV x) S c R) : relV F k c (a.eval x) := by
  obtain ⟨v, R1, R2, h1, h2, _⟩ := tells_bind (good_opd x) good_asV1 h
  have hv := opd_sound hf h1
  cases v with
  | w v => obtain ⟨rfl, _⟩ := tells_pure h2; exact hv
  | tup vs => exact (tells_fail h2).elim
theorem opVs_sound {F : Fx} {k : K} {S : St} {a : Act} (hf : FrR F k S.fr a) : ∀ {xs : List Operand} {vs : List V1} {R : List Nat}, Tells (opVs xs) S vs R → relVs F k vs (xs.map a.eval)
  | [], vs, R, h => by obtain ⟨rfl, _⟩ := tells_pure h; rfl
  | x :: xs, vs, R, h => by
    obtain ⟨v, R1, R2, h1, h2, _⟩ := tells_bind (good_opV x) (fun _ => Good.all _) h
    obtain ⟨vs', R3, R4, h3, h4, _⟩ := tells_bind (good_opVs xs) (fun _ => Good.all _) h2
    obtain ⟨rfl, _⟩ := tells_pure h4
    exact ⟨_, _, rfl, opV_sound hf h1, opVs_sound hf h3⟩

section mem
variable {P : Program}

theorem TDok.tysz {t : Nat} {td : TD} (h : TDok P t td) (hd : td.dat = true) (w : World) : td.ty.sz = td.sz := by
  obtain ⟨ti, z, _, _, _, _, hz, _, hr⟩ := h.info
  have := (hr hd w (fun _ => True)).length
  simpa [hz] using this.symm

theorem owns_form {w : World} {base e size n : Nat} {v : Value} {xs : List Value} (h : w.ownsRow base e size v n xs) : ∃ a c, v = .slice a n c := by
  rcases h.2 with ⟨rfl, rfl⟩ | ⟨g, cap, cur, rfl, _⟩
  · exact ⟨_, _, rfl⟩
  · exact ⟨_, _, rfl⟩

theorem one_le_of_ble {n : Nat} (h : Nat.ble 1 n = true) : 1 ≤ n := Nat.le_of_ble_eq_true h

theorem append_sound {F : Fx} {k : K} (hk : HeapOK F k) {S : St} (hS : k.h = lkH S.H) {a : Act} (hf : FrR F k S.fr a) {t e : Nat} (ht : P.underlying t = some (.slice e)) {te : TD} (hte : TDok P e te) {dst : Nat} {x y : Operand} (ty : TypeId) {U : Upd} {R : List Nat}
    (h : Tells (appendStep dst e te x y) S U R) : Does P F k (Builtin.append_ #[t, t] ty #[a.eval x, a.eval y]) U := by
  unfold appendStep at h
  obtain ⟨cx, _, _, hx, h, _⟩ := tells_bind (good_opC x) (fun _ => Good.all _) h
  obtain ⟨cy, _, _, hy, h, _⟩ := tells_bind (good_opC y) (fun _ => Good.all _) h
  obtain ⟨o, _, _, ho, h, _⟩ := tells_bind (Good.rdO dst) (fun _ => Good.all _) h
  obtain ⟨_, _, _, hg, h, _⟩ := tells_bind (Good.guard _) (fun _ => Good.all _) h
  obtain ⟨py, _, _, hpy, h, _⟩ := tells_bind (good_rowsOf cy) (fun _ => Good.all _) h
  have hx := opC_sound hf hx
  have hy := opC_sound hf hy
  have hd : k.h dst = none := by
    obtain ⟨rfl, _⟩ := tells_rdO ho
    have := (tells_guard hg).1
    rw [hS]
    cases hh : lkH S.H dst with
    | none => rfl
    | some o => rw [hh] at this; cases this
  have hrow := rowsOf_sound hk hS hpy hy
  have fin : ∀ {r : Ty} {xs ys : List r.den} {us : List Value} {v : Value} (obs : List (Nat × Ob)) {R : List Nat}, r.sz = te.sz →
      Tells (match py with | some p => ofOpt (castT (.slice r) (.slice p.1) p.2) | none => M.pure []) S ys R →
      k.w.ownsRow F.B e r.sz v xs.length us → RdRows k.w (k.ok F) r xs us → xs.length ≤ lim → (xs.length + ys.length) * te.bytes ≤ lim → 1 ≤ te.bytes →
      (obs = [] ∧ v.ownBlock = none ∨ ∃ id xs', obs = [(id, .gone)] ∧ k.h id = some (.arr e r xs') ∧ v = k.ν id) →
      Does P F k (Builtin.append_ #[t, t] ty #[v, a.eval y]) ⟨.w (.one (.arr dst)), (dst, .arr e r (xs ++ ys)) :: obs⟩ := by
    intro r xs ys us v obs R hsz hys hown hxs hxl hb hb1 hobs
    have hyl : ∃ vs ad cap, RdRows k.w (k.ok F) r ys vs ∧ a.eval y = .slice ad ys.length cap ∧ (ys ≠ [] → ∃ b, ad = some b ∧ CellsAt k.w b vs) ∧ ys.length ≤ lim := by
      cases py with
      | none =>
        obtain ⟨rfl, _⟩ := tells_pure hys
        exact ⟨[], none, 0, rfl, hrow, fun h => absurd rfl h, Nat.zero_le _⟩
      | some p =>
        obtain ⟨hc, _⟩ := tells_ofOpt hys
        obtain ⟨r', ys'⟩ := p
        obtain ⟨he, rfl⟩ := castT_eq hc
        injection he with he
        subst he
        obtain ⟨vs, ad, cap, h1, h2, h3, _, h4⟩ := hrow
        exact ⟨vs, ad, cap, h1, h2, h3, h4⟩
    obtain ⟨vs, ad, cap, h1, h2, h3, h4⟩ := hyl
    have hbn : xs.length + ys.length ≤ lim := Nat.le_trans (Nat.le_mul_of_pos_right _ hb1) hb
    obtain ⟨v', w', hr, ho, hgr, hat⟩ := append_run (P := P) hk (ty := ty) ht hte hsz hown (m := ys.length) (cap := cap) (a := ad) (vs := vs) h1.length (fun hne => h3 (by rintro rfl; exact hne rfl)) h1.one hb (Nat.le_trans hbn lim_max)
    obtain ⟨k', hw, hh, hk', hle, hrel⟩ := append_step hk hd (zs := xs ++ ys) obs hobs (by rw [List.length_append]; exact ho) (hxs.append h1) (by rw [List.length_append]; exact hbn) hgr hat (by rw [List.length_append]; exact owns_form ho)
    exact ⟨v', k', by rw [h2, hr, hw], hh, hk', hle, hrel⟩
  cases cx with
  | emp =>
    obtain ⟨ys, _, _, hys, h, _⟩ := tells_bind (Good.all _) (fun _ => Good.all _) h
    obtain ⟨_, _, _, hb, h, _⟩ := tells_bind (Good.guard _) (fun _ => Good.all _) h
    have hb := (tells_guard hb).1
    obtain ⟨rfl, _⟩ := tells_pure h
    simp only [Bool.and_eq_true, decide_eq_true_eq] at hb
    rw [show a.eval x = .slice none 0 0 from hx]
    have := fin (xs := []) (us := []) (v := .slice none 0 0) [] (hte.tysz hb.2.2 k.w) hys ⟨by simp, .inl ⟨rfl, rfl⟩⟩ rfl (Nat.zero_le _) (by simpa using hb.1) (one_le_of_ble hb.2.1) (.inl ⟨rfl, rfl⟩)
    simpa using this
  | arr id =>
    obtain ⟨o', _, _, ho', h, _⟩ := tells_bind (Good.rdO _) (fun _ => Good.all _) h
    obtain ⟨rfl, _⟩ := tells_rdO ho'
    rw [← hS] at h
    obtain ⟨_, hx⟩ := hx
    cases hh : k.h id with
    | none => rw [hh] at h; exact (tells_fail h).elim
    | some o =>
      rw [hh] at h hx
      cases o with
      | arr e' r xs =>
        obtain ⟨ys, _, _, hys, h, _⟩ := tells_bind (Good.all _) (fun _ => Good.all _) h
        obtain ⟨_, _, _, hb, h, _⟩ := tells_bind (Good.guard _) (fun _ => Good.all _) h
        obtain ⟨_, _, _, hb2, h, _⟩ := tells_bind (Good.guard _) (fun _ => Good.all _) h
        have hb := (tells_guard hb).1
        have hb2 := (tells_guard hb2).1
        obtain ⟨rfl, _⟩ := tells_pure h
        simp only [Bool.and_eq_true, decide_eq_true_eq] at hb hb2
        obtain rfl := Nat.eq_of_beq_eq_true hb.1
        rw [show a.eval x = k.ν id from hx]
        obtain ⟨us, hown, hxs, hl⟩ := hk.obj id _ hh
        exact fin [(id, .gone)] (Nat.eq_of_beq_eq_true hb.2) hys hown hxs hl hb2.1 (one_le_of_ble hb2.2) (.inr ⟨id, xs, rfl, hh, rfl⟩)
      | box cs => exact (tells_fail h).elim
      | imm r xs => exact (tells_fail h).elim
      | gone => exact (tells_fail h).elim
  | _ => exact (tells_fail h).elim

end mem
end Go.MC

/- make, literals (general). -/
set_option linter.unusedVariables false
set_option linter.unusedSimpArgs false
namespace Go.MC
open Go.RowKit

section mem
variable {P : Program}

theorem madeCells_step (z : Array Value) (n : Nat) : (madeCells z ((n + 1) * z.size)).toList = z.toList ++ (madeCells z (n * z.size)).toList := by
  have h : (n + 1) * z.size = z.size + n * z.size := by rw [Nat.add_mul, Nat.one_mul, Nat.add_comm]
  rw [h]
  simp only [madeCells, Array.toList_map, Array.toList_range, List.range_add, List.map_append, List.map_map]
  congr 1
  · refine List.ext_getElem? fun i => ?_
    by_cases hi : i < z.size
    · simp [hi, Nat.mod_eq_of_lt hi]
    · simp [hi]
  · refine List.map_congr_left fun i _ => ?_
    simp

theorem made_rows {w : World} {ok : Nat → Prop} {t : Ty} {x : t.den} {z : Array Value} (h : Rd w ok t x z.toList) : ∀ n, RdRows w ok t (List.replicate n x) (madeCells z (n * z.size)).toList
  | 0 => by simp [madeCells, RdRows]
  | n + 1 => by
    rw [madeCells_step, List.replicate_succ]
    exact ⟨_, _, rfl, h, made_rows h n⟩

theorem free_dst {k : K} {S : St} (hS : k.h = lkH S.H) {dst : Nat} {o : Option Ob} {R R' : List Nat} {u : Unit} (ho : Tells (rdO dst) S o R) (hg : Tells (guardB o.isNone) S u R') : k.h dst = none := by
  obtain ⟨rfl, _⟩ := tells_rdO ho
  have := (tells_guard hg).1
  rw [hS]
  cases hh : lkH S.H dst with
  | none => rfl
  | some o => rw [hh] at this; cases this

theorem make_sound {F : Fx} {k : K} (hk : HeapOK F k) {S : St} (hS : k.h = lkH S.H) {a : Act} (hf : FrR F k S.fr a) {t e : Nat} (ht : P.underlying t = some (.slice e)) {te : TD} (hte : TDok P e te) {dst : Nat} {l c : Operand} {U : Upd} {R : List Nat}
    (h : Tells (makeStep dst e te l c) S U R) : Does P F k (Instr.makeSlice t (a.eval l) (a.eval c)) U := by
  unfold makeStep at h
  obtain ⟨cl, _, _, hx, h, _⟩ := tells_bind (good_opC l) (fun _ => Good.all _) h
  obtain ⟨cc, _, _, hy, h, _⟩ := tells_bind (good_opC c) (fun _ => Good.all _) h
  obtain ⟨o, _, _, ho, h, _⟩ := tells_bind (Good.rdO dst) (fun _ => Good.all _) h
  obtain ⟨_, _, _, hg, h, _⟩ := tells_bind (Good.guard _) (fun _ => Good.all _) h
  have hd := free_dst hS ho hg
  have hx := opC_sound hf hx
  have hy := opC_sound hf hy
  obtain ⟨n, m, rfl, rfl⟩ : ∃ n m, cl = .v (.int .i64) n ∧ cc = .v (.int .i64) m := by
    split at h
    · exact ⟨_, _, rfl, rfl⟩
    · exact (tells_fail h).elim
  · obtain ⟨_, _, _, h1, h, _⟩ := tells_bind (Good.guard _) (fun _ => Good.all _) h
    obtain ⟨_, _, _, h2, h, _⟩ := tells_bind (Good.guard _) (fun _ => Good.all _) h
    obtain ⟨_, _, _, h3, h, _⟩ := tells_bind (Good.guard _) (fun _ => Good.all _) h
    have h1 := (tells_guard h1).1
    have h2 := (tells_guard h2).1
    have h3 := (tells_guard h3).1
    obtain ⟨rfl, _⟩ := tells_pure h
    simp only [Bool.and_eq_true, decide_eq_true_eq] at h1 h2 h3
    subst h1
    obtain ⟨h3, h4, h5⟩ := h3
    have h4 := one_le_of_ble h4
    have hnl : n.toNat ≤ lim := Nat.le_trans (Nat.le_mul_of_pos_right _ h4) h3
    obtain ⟨hx, _⟩ := hx
    obtain ⟨hy, _⟩ := hy
    simp only [List.cons.injEq, and_true] at hx hy
    obtain ⟨ti, z, hi, hs1, hs2, hz, hzc, _, hdat⟩ := hte.info
    have hr := run_make (P := P) k.w t e ti z ht hi hz .i64 .i64 n n h2 (Int.le_refl _) (by
      rw [hs2]
      have : ((n.toNat * te.bytes : Nat) : Int) ≤ lim := by exact_mod_cast h3
      rw [Int.natCast_mul, Int.toNat_of_nonneg h2, Int.mul_comm] at this
      have hl : (lim : Int) = 140737488355328 := rfl
      omega) (by have hl : lim = 140737488355328 := rfl; omega)
    have hsz : (madeCells z.cells (n.toNat * ti.size)) = madeCells z.cells (n.toNat * z.cells.size) := by rw [hs1, hzc]
    have hrows := made_rows (hdat h5 k.w (k.ok F)) n.toNat
    have htz := hte.tysz h5 k.w
    obtain ⟨k', hw, hh, hk', hle, hrel⟩ := new_arr hk hd (e := e) (r := te.ty) (xs := List.replicate n.toNat te.ty.dflt) (cur := madeCells z.cells (n.toNat * z.cells.size)) (cap := n.toNat)
      (by simp) (Nat.le_trans hnl lim_max) (by rw [size_madeCells, hzc, htz])
      (by
        rw [List.length_replicate, htz, ← hzc, List.take_of_length_le (by rw [Array.length_toList, size_madeCells]; exact Nat.le_refl _)]
        exact hrows) (by simpa using hnl)
    refine ⟨_, k', ?_, hh, hk', hle, hrel⟩
    rw [hx, hy, hr, hw, hsz]
    simp

theorem packAll_sound {F : Fx} {k : K} (hk : HeapOK F k) {S : St} (hS : k.h = lkH S.H) {fz : Bool} {t : Ty} : ∀ {vs : List V1} {xs : List t.den} {obs : List (Nat × Ob)} {R : List Nat}
    (h : Tells (packAll fz t vs) S (xs, obs) R) {vals : List Value} (hv : relVs F k vs vals) (hn : (vs.all fun v => v.cells.all C.known) = true),
    ∃ l, Taken k l ∧ RdRows k.w (k.okT F l) t xs (vals.flatMap fun v => v.cells.toList) ∧ Frozen k obs ∧ (fz = true → ∀ id ∈ l, id ∈ obs.map (·.1)) ∧ (∀ v ∈ vals, v.cells.size = t.sz) ∧ xs.length = vals.length
  | [], xs, obs, R, h, vals, hv, hn => by
    obtain ⟨h3, _⟩ := tells_pure h
    obtain ⟨rfl, rfl⟩ := Prod.mk.inj h3
    simp only [relVs] at hv
    subst hv
    exact ⟨[], fun _ h => by simp at h, rfl, fun _ h => by simp at h, fun _ _ h => by simp at h, by simp, rfl⟩
  | v :: vs, xs, obs, R, h, vals, hv, hn => by
    unfold packAll at h
    obtain ⟨p, _, _, h1, h, _⟩ := tells_bind (good_pack _ _ _) (fun _ => Good.all _) h
    obtain ⟨u, us, rfl, hu, hus⟩ := hv
    simp only [List.all_cons, Bool.and_eq_true] at hn
    obtain ⟨cs, hcs, hrel⟩ := relV_cells hu (by simpa using hn.1)
    obtain ⟨l1, u1, v1, hsplit, hr1, ht1, hd1, hf1, hz1⟩ := pack_sound hk hS (x := p.1) (rest := p.2.1) (obs := p.2.2) h1 hrel
    split at h
    · rename_i hp
      rw [hp] at hr1
      simp only [relCs] at hr1
      subst hr1
      rw [List.append_nil] at hsplit
      subst hsplit
      obtain ⟨q, _, _, h2, h, _⟩ := tells_bind (good_packAll _ _ _) (fun _ => Good.all _) h
      obtain ⟨h3, _⟩ := tells_pure h
      obtain ⟨rfl, rfl⟩ := Prod.mk.inj h3
      obtain ⟨l2, ht2, hd2, hf2, hz2, hsz, hlen⟩ := packAll_sound hk hS (xs := q.1) (obs := q.2) h2 hus (by simpa using hn.2)
      refine ⟨l1 ++ l2, fun id hi => ?_, ?_, fun z hz => ?_, fun hfz id hi => ?_, ?_, by simp [hlen]⟩
      · rcases List.mem_append.1 hi with hi | hi
        · exact ht1 id hi
        · exact ht2 id hi
      · rw [List.flatMap_cons, hcs]
        exact ⟨cs, _, rfl, hd1.mono (fun b hb => okT_mono (fun i hi => List.mem_append.2 (.inl hi)) hb) (fun _ _ _ => rfl), hd2.mono (fun b hb => okT_mono (fun i hi => List.mem_append.2 (.inr hi)) hb) (fun _ _ _ => rfl)⟩
      · rcases List.mem_append.1 hz with hz | hz
        · exact hf2 z hz
        · exact hf1 z hz
      · rw [List.map_append]
        rcases List.mem_append.1 hi with hi | hi
        · exact List.mem_append.2 (.inr (hz1 hfz id hi))
        · exact List.mem_append.2 (.inl (hz2 hfz id hi))
      · intro v hv
        rcases List.mem_cons.1 hv with rfl | hv
        · rw [hcs, List.size_toArray]; exact hd1.length
        · exact hsz v hv
    · exact (tells_fail h).elim

theorem inOrder_eq : ∀ {ps : List (Nat × Operand)} {i : Nat} (h : inOrder i ps = true) (f : Operand → Value), (ps.map fun p => (p.1, f p.2)) = ((ps.map fun p => f p.2).zipIdx i).map fun x => (x.2, x.1)
  | [], _, _, _ => rfl
  | p :: ps, i, h, f => by
    simp only [inOrder, Bool.and_eq_true] at h
    have := Nat.eq_of_beq_eq_true h.1
    simp only [List.map_cons, List.zipIdx_cons, inOrder_eq h.2 f, this]

theorem buildSlice_sound {F : Fx} {k : K} (hk : HeapOK F k) {S : St} (hS : k.h = lkH S.H) {a : Act} (hf : FrR F k S.fr a) {t e : Nat} (ht : P.underlying t = some (.slice e)) {te : TD} (hte : TDok P e te) {dst len : Nat} {parts : Array (Nat × Operand)} {U : Upd} {R : List Nat}
    (h : Tells (buildSliceStep dst e te len parts.toList) S U R) : Does P F k (Instr.buildSlice t len (parts.map fun (i, x) => (i, a.eval x))) U := by
  unfold buildSliceStep at h
  obtain ⟨_, _, _, hg1, h, _⟩ := tells_bind (Good.guard _) (fun _ => Good.all _) h
  obtain ⟨vs, _, _, hvs, h, _⟩ := tells_bind (good_opVs _) (fun _ => Good.all _) h
  obtain ⟨_, _, _, hg2, h, _⟩ := tells_bind (Good.guard _) (fun _ => Good.all _) h
  obtain ⟨o, _, _, ho, h, _⟩ := tells_bind (Good.rdO dst) (fun _ => Good.all _) h
  obtain ⟨_, _, _, hg, h, _⟩ := tells_bind (Good.guard _) (fun _ => Good.all _) h
  obtain ⟨q, _, _, hq, h, _⟩ := tells_bind (good_packAll _ _ _) (fun _ => Good.all _) h
  obtain ⟨rfl, _⟩ := tells_pure h
  have hd := free_dst hS ho hg
  have hvs := opVs_sound hf hvs
  have hg1 := (tells_guard hg1).1
  have hg2 := (tells_guard hg2).1
  simp only [Bool.and_eq_true] at hg1
  obtain ⟨hn, hord, hsm, hdat⟩ := hg1
  have hn := Nat.eq_of_beq_eq_true hn
  have hsm := Nat.le_of_ble_eq_true hsm
  obtain ⟨l, hT, hrows, hF, hZ, hsz, hlen⟩ := packAll_sound hk hS (xs := q.1) (obs := q.2) hq hvs hg2
  obtain ⟨hk1, hle1, hok⟩ := freeze hk hF
  have hrows1 : RdRows (k.put q.2).w ((k.put q.2).ok F) te.ty q.1 ((parts.toList.map fun p => a.eval p.2).flatMap fun v => v.cells.toList) := by
    rw [List.map_map] at hrows
    exact hrows.mono (fun b hb => hok b (okT_mono (hZ rfl) hb)) (fun _ _ _ => rfl)
  have hd1 : (k.put q.2).h dst = none := by
    show (lkH q.2 dst).or (k.h dst) = none
    rw [hd]
    cases hh : lkH q.2 dst with
    | none => rfl
    | some o =>
      obtain ⟨e', r, xs, h1, _⟩ := hF _ (lkH_some hh)
      rw [show k.h dst = _ from h1] at hd
      cases hd
  have htz := hte.tysz hdat k.w
  obtain ⟨ti, z, hi, hs1, hs2, hz, hzc, _, _⟩ := hte.info
  have hpos := hte.pos
  rw [List.map_map] at hsz hlen
  have hxl : q.1.length = len := by rw [hlen]; simpa using hn
  have hlim : len ≤ lim := by
    have : len ≤ len * te.sz := Nat.le_mul_of_pos_right _ hpos
    have hl : lim = 140737488355328 := rfl
    omega
  obtain ⟨cur, hcur, hrun⟩ : ∃ cur : Array Value, cur.toList = ((parts.toList.map fun p => a.eval p.2).flatMap fun v => v.cells.toList) ∧
      (Instr.buildSlice t len (parts.map fun (i, x) => (i, a.eval x))).run P k.w = .ok (.slice (some ⟨k.w.heap.size, 0, none⟩) len len) (k.w.alloc (.cells cur e)) := by
    refine ⟨_, rfl, ?_⟩
    by_cases h0 : len = 0
    · subst h0
      have hp : parts = #[] := by
        apply Array.eq_empty_of_size_eq_zero
        simpa using hn
      subst hp
      simp [Instr.buildSlice, run_underlying ht, sizeOf, typeInfo, hi, Instr.fill, newRow]
      exact congrArg (fun c => k.w.alloc (Obj.cells c e)) (Array.eq_empty_of_size_eq_zero (by simp))
    · refine run_buildSlice k.w t e len _ _ ti z ht hi hz (by rw [hs1]; omega) (by rw [hs1]; have := Nat.mul_pos (Nat.pos_of_ne_zero h0) hpos; omega) ?_
      rw [hs1]
      have hm : (parts.map fun (i, x) => (i, a.eval x)).toList = ((parts.toList.map fun p => a.eval p.2).zipIdx 0).map fun x => (x.2, x.1) := by
        rw [Array.toList_map, ← inOrder_eq hord]
      rw [hm]
      refine Great.fill_whole hpos _ _ (fun v hv => ?_) ?_
      · rw [← htz]; exact hsz v hv
      · simpa using congrArg (· * te.sz) hn
  obtain ⟨k', hw, hh, hk', hle, hrel⟩ := new_arr hk1 hd1 (e := e) (r := te.ty) (xs := q.1) (cur := cur) (cap := len)
    (by omega) (Nat.le_trans hlim lim_max) (by rw [← Array.length_toList, hcur, hrows1.length, hxl])
    (by rw [List.take_of_length_le (by rw [hcur, hrows1.length]; exact Nat.le_refl _), hcur]; exact hrows1) (by omega)
  refine ⟨_, k', by rw [hrun, hw]; rfl, ?_, hk', hle1.trans hle, ?_⟩
  · rw [hh, put_put]; rfl
  · rw [hxl] at hrel
    exact hrel

end mem
end Go.MC

/- Struct literals, fields; slices' pieces, indices, lengths (general). -/
set_option linter.unusedVariables false
set_option linter.unusedSimpArgs false
namespace Go.MC
open Go.RowKit

section mem
variable {P : Program}

theorem fill_step {place : Nat → Option (Nat × Nat)} {i off sz : Nat} {v : Value} {vs cells : List Value} {rest : List (Nat × Value)} (hp : place i = some (off, sz)) (hv : v.cells = vs.toArray) (hs : vs.length = sz) (hle : off + sz ≤ cells.length) :
    Instr.fill place cells.toArray ((i, v) :: rest) = Instr.fill place (cells.take off ++ (vs ++ cells.drop (off + vs.length))).toArray rest := by
  have hg := Great.foldl_set off vs 0 cells.toArray
  simp only [Instr.fill, hp, hv, List.size_toArray, hs]
  rw [if_neg (by simp; omega)]
  congr 1
  apply Array.ext_getElem?
  intro k
  have e : (Array.foldl (fun cs (x : Value × Nat) => cs.setIfInBounds (off + x.2) x.1) cells.toArray vs.toArray.zipIdx) = (vs.zipIdx 0).foldl (fun cs (x : Value × Nat) => cs.setIfInBounds (off + x.2) x.1) cells.toArray := by
    rw [← Array.foldl_toList, Array.toList_zipIdx]
  refine (congrArg (·[k]?) e).trans ((hg.2 k).trans ?_)
  simp only [Nat.add_zero, List.getElem?_toArray, List.size_toArray]
  by_cases h1 : k < off
  · rw [if_neg (by omega), List.getElem?_append_left (by simp; omega), List.getElem?_take_of_lt h1]
  · by_cases h2 : k < off + vs.length
    · rw [if_pos (by omega), List.getElem?_append_right (by simp; omega), List.getElem?_append_left (by simp; omega)]
      congr 1
      simp
      omega
    · rw [if_neg (by omega), List.getElem?_append_right (by simp; omega), List.getElem?_append_right (by simp; omega), List.getElem?_drop]
      congr 1
      simp
      omega

theorem mapM_some {α β : Type} {g : α → Option β} : ∀ {l : List α}, (∀ a ∈ l, ∃ b, g a = some b) → ∃ bs : List β, l.mapM g = some bs ∧ ∀ (j : Nat) (a : α), l[j]? = some a → ∃ b, g a = some b ∧ bs[j]? = some b
  | [], _ => ⟨[], rfl, fun j a h => by simp at h⟩
  | x :: l, h => by
    obtain ⟨b, hb⟩ := h x (by simp)
    obtain ⟨bs, h1, h2⟩ := mapM_some (l := l) (fun a ha => h a (by simp [ha]))
    refine ⟨b :: bs, by simp [List.mapM_cons, hb, h1], fun j a hj => ?_⟩
    cases j with
    | zero => simp at hj; subst hj; exact ⟨b, hb, rfl⟩
    | succ j => simpa using h2 j a (by simpa using hj)

theorem fillC_sound {F : Fx} {k : K} {TT : Nat → Option TD} {flds : List (Nat × Nat)} {place : Nat → Option (Nat × Nat)} (hp : ∀ j f td, flds[j]? = some f → TT f.1 = some td → place j = some (f.2, td.sz)) :
    ∀ {idx : List Nat} {vs : List V1} {vals : List Value} {cs cs' : List C} {cells : List Value}, fillC flds TT cs (idx.zip vs) = some cs' → relCs F k cs cells → relVs F k vs vals →
      ∃ cells', Instr.fill place cells.toArray (idx.zip vals) = some cells'.toArray ∧ relCs F k cs' cells'
  | [], vs, vals, cs, cs', cells, h, hc, hv => by
    simp only [List.zip_nil_left, fillC, Option.some.injEq] at h
    subst h
    exact ⟨cells, rfl, hc⟩
  | j :: idx, [], vals, cs, cs', cells, h, hc, hv => by
    simp only [List.zip_nil_right, fillC, Option.some.injEq] at h
    subst h
    simp only [relVs] at hv
    subst hv
    exact ⟨cells, rfl, hc⟩
  | j :: idx, v :: vs, vals, cs, cs', cells, h, hc, hv => by
    obtain ⟨u, us, rfl, hu, hus⟩ := hv
    simp only [List.zip_cons_cons, fillC] at h
    cases hf : flds[j]? with
    | none => rw [hf] at h; cases h
    | some f =>
      rw [hf] at h
      dsimp only at h
      cases ht : TT f.1 with
      | none => rw [ht] at h; cases h
      | some td =>
        rw [ht] at h
        dsimp only at h
        cases hb : (Nat.beq v.cells.length td.sz && Nat.ble (f.2 + td.sz) cs.length && v.cells.all C.known) with
        | false => rw [hb] at h; cases h
        | true =>
          rw [hb] at h
          simp only [cond_true] at h
          simp only [Bool.and_eq_true] at hb
          obtain ⟨⟨h1, h2⟩, h3⟩ := hb
          have h1 := Nat.eq_of_beq_eq_true h1
          have h2 := Nat.le_of_ble_eq_true h2
          obtain ⟨ws, hw, hr⟩ := relV_cells hu h3
          have hl := hr.length
          have hcl := hc.length
          obtain ⟨cells', h4, h5⟩ := fillC_sound hp h (splice_rel hc hr f.2) hus
          refine ⟨cells', ?_, h5⟩
          rw [List.zip_cons_cons, fill_step (hp j f td hf ht) hw (by omega) (by omega)]
          exact h4

theorem build_sound {F : Fx} {k : K} {S : St} {a : Act} (hf : FrR F k S.fr a) {TT : Nat → Option TD} (hTT : TTok P TT) {t : Nat} {td : TD} (htd : TDok P t td) (hagg : td.agg = true) {parts : Array (Nat × Operand)} {vs : List V1} {cs : List C} {R : List Nat}
    (h : Tells (opVs (parts.toList.map (·.2))) S vs R) (hfill : fillC td.flds TT td.zero ((parts.toList.map (·.1)).zip vs) = some cs) :
    ∃ v, (Instr.build t (parts.map fun (i, x) => (i, a.eval x))).run P k.w = .ok v k.w ∧ relV F k (.agg cs) v := by
  obtain ⟨fs, hu, hfl⟩ := htd.agg hagg
  obtain ⟨ti, z, hi, hs1, hs2, hz, hzc, hzr, _⟩ := htd.info
  have hv := opVs_sound hf h
  obtain ⟨places, hpl, hget⟩ := mapM_some (g := fun f : Field => (P.info? f.type).map fun i => (f.offset, i.size)) (l := fs.toList) (fun f hm => by
    have : (f.type, f.offset) ∈ td.flds := by rw [← hfl]; exact List.mem_map.2 ⟨f, hm, rfl⟩
    obtain ⟨ti, h1, _⟩ := htd.fld _ this
    exact ⟨_, by rw [h1]; rfl⟩)
  obtain ⟨cells, hc, hr⟩ := fillC_sound (F := F) (k := k) (place := (places.toArray[·]?)) (fun j f td' hj ht => by
    rw [← hfl] at hj
    simp only [List.getElem?_map, Option.map_eq_some_iff] at hj
    obtain ⟨fd, h3, rfl⟩ := hj
    obtain ⟨b, h4, h5⟩ := hget j fd h3
    obtain ⟨ti', z', h6, h7, _⟩ := (hTT _ _ ht).info
    simp only [h6, Option.map_some, Option.some.injEq] at h4
    subst h4
    simpa [h7] using h5) hfill (hzr F k) hv
  refine ⟨_, run_build k.w t _ cells.toArray ?_, cells, rfl, hr⟩
  have hparts : (parts.map fun (i, x) => (i, a.eval x)).toList = (parts.toList.map (·.1)).zip ((parts.toList.map (·.2)).map a.eval) := by
    rw [Array.toList_map, List.map_map]
    generalize parts.toList = l
    induction l with
    | nil => rfl
    | cons p l ih => simp only [List.map_cons, List.zip_cons_cons, ih]; rfl
  unfold Program.built
  simp only [hi, hu, hz, hpl, hparts]
  have : z.cells = z.cells.toList.toArray := by simp
  rw [this]
  exact hc

theorem run_part_at {t : Nat} {td : TD} (h : TDok P t td) {w : World} {cells : List Value} {off : Nat} (hle : off + td.sz ≤ cells.length) :
    (td.agg = true → (part t cells.toArray off).run P w = .ok (.agg ((cells.drop off).take td.sz).toArray) w) ∧
    (td.agg = false → ∃ v, (cells.drop off).take td.sz = [v] ∧ (part t cells.toArray off).run P w = .ok v w) := by
  constructor
  · intro ha
    have : cells.toArray.extract off (off + td.sz) = ((cells.drop off).take td.sz).toArray := by
      simp [List.extract_eq_take_drop]
    simp only [part, Sem.run_bind, run_isAgg_true h ha, Result.andThen_ok, if_true, run_sizeOf' h, Sem.run_pure, this]
  · intro ha
    have h1 := (h.noagg ha).1
    have hlt : off < cells.length := by omega
    refine ⟨cells[off], ?_, ?_⟩
    · rw [h1, List.drop_eq_getElem_cons hlt]; rfl
    · simp only [part, Sem.run_bind, run_isAgg_false h ha, Result.andThen_ok, Bool.false_eq_true, if_false]
      simp [hlt]

/-- Bounds of a piece. -/
theorem optInt_sound {F : Fx} {k : K} {S : St} {a : Act} (hf : FrR F k S.fr a) {x : Option Operand} {d n : Int} {R : List Nat} (h : Tells (optInt x d) S n R) :
    (x = none ∧ n = d) ∨ ∃ kk, x.map a.eval = some (.int kk n) := by
  cases x with
  | none => obtain ⟨rfl, _⟩ := tells_pure h; exact .inl ⟨rfl, rfl⟩
  | some o =>
    unfold optInt at h
    obtain ⟨c, _, _, hc, h, _⟩ := tells_bind (good_opC o) (fun _ => Good.all _) h
    have hr := opC_sound hf hc
    cases c with
    | v t x =>
      cases t with
      | int kk =>
        obtain ⟨rfl, _⟩ := tells_pure h
        obtain ⟨hr, _⟩ := hr
        simp only [List.cons.injEq, and_true] at hr
        exact .inr ⟨kk, by simp [hr]⟩
      | _ => exact (tells_fail h).elim
    | _ => exact (tells_fail h).elim

theorem run_bounds {w : World} (isSlice : Bool) {len cap : Nat} {lo hi : Option Value} {l h : Int} (hl : (lo = none ∧ l = 0) ∨ ∃ kk, lo = some (.int kk l)) (hh : (hi = none ∧ h = len) ∨ ∃ kk, hi = some (.int kk h))
    (h0 : 0 ≤ l) (h1 : l ≤ h) (h2 : h ≤ (cap : Int)) : (Instr.sliceBounds isSlice len cap lo hi none).run P w = .ok (l.toNat, h.toNat, cap) w := by
  have bound : ∀ (kk : IntKind) (i : Int) (y : Nat) (c : BoundsCode), 0 ≤ i → i ≤ (y : Int) → (Instr.sliceBound (.int kk i) y c).run P w = .ok i.toNat w := by
    intro kk i y c h3 h4
    simp [Instr.sliceBound, asIntOf, h3, h4]
  rcases hl with ⟨rfl, rfl⟩ | ⟨kl, rfl⟩ <;> rcases hh with ⟨rfl, rfl⟩ | ⟨kh, rfl⟩
  · simp [Instr.sliceBounds]
  · simp [Instr.sliceBounds, bound kh h cap _ (by omega) h2]
  · simp [Instr.sliceBounds, bound kl l len _ h0 h1]
  · simp [Instr.sliceBounds, bound kh h cap _ (by omega) h2, bound kl l h.toNat _ h0 (by omega)]

theorem extract_str (s : List UInt8) (l h : Nat) : (⟨⟨s⟩⟩ : ByteArray).extract l h = ⟨⟨(s.take h).drop l⟩⟩ := by
  have : ((⟨⟨s⟩⟩ : ByteArray).extract l h).data = (⟨(s.take h).drop l⟩ : Array UInt8) := by
    rw [ByteArray.data_extract]
    simp [List.extract_eq_take_drop, List.drop_take]
  exact ByteArray.ext this

theorem slice_sound {F : Fx} {k : K} (hk : HeapOK F k) {S : St} (hS : k.h = lkH S.H) {a : Act} (hf : FrR F k S.fr a) {t : Nat} {sl : Bool} {te : TD} (ht : if sl = true then ∃ e, P.underlying t = some (.slice e) ∧ TDok P e te else P.underlying t = some .string)
    {x : Operand} {lo hi mx : Option Operand} {U : Upd} {R : List Nat} (h : Tells (sliceStep sl te x lo hi mx) S U R) : Does P F k (Instr.sliceAt t (a.eval x) (lo.map a.eval) (hi.map a.eval) (mx.map a.eval)) U := by
  unfold sliceStep at h
  obtain ⟨_, _, _, hm, h, _⟩ := tells_bind (Good.guard _) (fun _ => Good.all _) h
  have hm := (tells_guard hm).1
  have hm : mx = none := by cases mx <;> simp_all
  subst hm
  obtain ⟨c, _, _, hc, h, _⟩ := tells_bind (good_opC x) (fun _ => Good.all _) h
  have hc := opC_sound hf hc
  have opt : ∀ {o : Option Operand} {d n : Int}, ((o = none ∧ n = d) ∨ ∃ kk, o.map a.eval = some (.int kk n)) → ((o.map a.eval = none ∧ n = d) ∨ ∃ kk, o.map a.eval = some (.int kk n)) := by
    rintro o d n (⟨rfl, rfl⟩ | h)
    · exact .inl ⟨rfl, rfl⟩
    · exact .inr h
  have rest : ∀ {R : List Nat} {c : C}, (∀ s, c ≠ .v .str s) → relC F k c (a.eval x) → Tells (M.bind (guardB sl) fun _ => M.bind (sliceOf c) fun p => M.bind (guardB (Nat.beq p.1.1.sz te.sz)) fun _ => M.bind (optInt lo 0) fun l => M.bind (optInt hi p.1.2.length) fun h => M.bind (guardB (decide (0 ≤ l))) fun _ => M.bind (guardB (decide (l ≤ h))) fun _ =>
      M.bind (guardB (decide (h ≤ (p.1.2.length : Int)))) fun _ => M.pure ⟨.w (.one (.v (.slice p.1.1) ((p.1.2.take h.toNat).drop l.toNat))), p.2⟩) S U R → Does P F k (Instr.sliceAt t (a.eval x) (lo.map a.eval) (hi.map a.eval) none) U := by
    intro R c hns hc h
    obtain ⟨_, _, _, h0, h, _⟩ := tells_bind (Good.guard _) (fun _ => Good.all _) h
    have h0 := (tells_guard h0).1
    rw [if_pos h0] at ht
    obtain ⟨e, ht, hte⟩ := ht
    obtain ⟨p, _, _, hp, h, _⟩ := tells_bind (good_sliceOf c) (fun _ => Good.all _) h
    obtain ⟨_, _, _, h1, h, _⟩ := tells_bind (Good.guard _) (fun _ => Good.all _) h
    obtain ⟨l, _, _, hl, h, _⟩ := tells_bind (good_optInt _ _) (fun _ => Good.all _) h
    obtain ⟨hh, _, _, hhi, h, _⟩ := tells_bind (good_optInt _ _) (fun _ => Good.all _) h
    obtain ⟨_, _, _, h2, h, _⟩ := tells_bind (Good.guard _) (fun _ => Good.all _) h
    obtain ⟨_, _, _, h3, h, _⟩ := tells_bind (Good.guard _) (fun _ => Good.all _) h
    obtain ⟨_, _, _, h4, h, _⟩ := tells_bind (Good.guard _) (fun _ => Good.all _) h
    obtain ⟨rfl, _⟩ := tells_pure h
    have h1 := Nat.eq_of_beq_eq_true (tells_guard h1).1
    have h2 := of_decide_eq_true (tells_guard h2).1
    have h3 := of_decide_eq_true (tells_guard h3).1
    have h4 := of_decide_eq_true (tells_guard h4).1
    have hl := opt (optInt_sound hf hl)
    have hhi := opt (optInt_sound hf hhi)
    obtain ⟨⟨r, xs⟩, obs⟩ := p
    have fin : HeapOK F (k.put obs) ∧ Le F k (k.put obs) ∧ Rd (k.put obs).w ((k.put obs).ok F) (.slice r) xs [a.eval x] := by
      cases c with
      | v ty y =>
        cases ty with
        | slice r' =>
          obtain ⟨h5, _⟩ := tells_pure hp
          have h5 := Prod.mk.inj h5
          obtain ⟨h5, rfl⟩ := h5
          cases h5
          obtain ⟨a1, a2, _⟩ := freeze (obs := []) hk (fun _ h => by simp at h)
          exact ⟨a1, a2, a2.rd hc⟩
        | _ => exact (tells_fail hp).elim
      | arr id =>
        unfold sliceOf at hp
        obtain ⟨o, _, _, ho, hp, _⟩ := tells_bind (Good.rdO _) (fun _ => Good.all _) hp
        obtain ⟨rfl, _⟩ := tells_rdO ho
        rw [← hS] at hp
        obtain ⟨_, hc⟩ := hc
        cases hid : k.h id with
        | none => rw [hid] at hp; exact (tells_fail hp).elim
        | some o =>
          rw [hid] at hp hc
          cases o with
          | arr e' r' xs' =>
            obtain ⟨h5, _⟩ := tells_pure hp
            have h5 := Prod.mk.inj h5
            obtain ⟨h5, rfl⟩ := h5
            cases h5
            obtain ⟨a1, a2, a3⟩ := freeze (obs := [(id, .imm r xs)]) hk (fun p hp => by simp at hp; subst hp; exact ⟨e', r, xs, hid, rfl⟩)
            refine ⟨a1, a2, ?_⟩
            rw [show a.eval x = k.ν id from hc]
            exact (arr_rd hk hid).mono (fun b hb => a3 b hb) (fun _ _ _ => rfl)
          | imm r' xs' =>
            obtain ⟨h5, _⟩ := tells_pure hp
            have h5 := Prod.mk.inj h5
            obtain ⟨h5, rfl⟩ := h5
            cases h5
            obtain ⟨a1, a2, _⟩ := freeze (obs := []) hk (fun _ h => by simp at h)
            refine ⟨a1, a2, ?_⟩
            rw [show a.eval x = k.ν id from hc]
            exact a2.rd (hk.obj id _ hid)
          | box cs => exact (tells_fail hp).elim
          | gone => exact (tells_fail hp).elim
      | _ => exact (tells_fail hp).elim
    obtain ⟨a1, a2, hrd⟩ := fin
    obtain ⟨ad, cap, hv, hcap, hxl⟩ := hrd.slice_form
    simp only [List.cons.injEq, and_true] at hv
    have hb := run_bounds (P := P) (w := k.w) true (len := xs.length) (cap := cap) hl hhi h2 h3 (by have h4 : hh ≤ (xs.length : Int) := h4; omega)
    rw [hv] at hrd ⊢
    have hpc := hrd.piece l.toNat hh.toNat cap (by omega) (by have h4 : hh ≤ (xs.length : Int) := h4; omega) (by have h4 : hh ≤ (xs.length : Int) := h4; omega) (Nat.le_refl _)
    refine ⟨_, k.put obs, ?_, rfl, a1, a2, hpc⟩
    show _ = Result.ok _ k.w
    simp only [Instr.sliceAt, Sem.run_bind, run_underlying ht, Result.andThen_ok, Instr.slice, hb, run_sizeOf' hte, Sem.run_pure]
    rw [← h1]
  by_cases hs : ∃ s, c = C.v .str s
  · obtain ⟨s, rfl⟩ := hs
    obtain ⟨_, _, _, h0, h, _⟩ := tells_bind (Good.guard _) (fun _ => Good.all _) h
    have h0 := (tells_guard h0).1
    rw [if_neg (by simpa using h0)] at ht
    obtain ⟨l, _, _, hl, h, _⟩ := tells_bind (good_optInt _ _) (fun _ => Good.all _) h
    obtain ⟨hh, _, _, hhi, h, _⟩ := tells_bind (good_optInt _ _) (fun _ => Good.all _) h
    obtain ⟨_, _, _, h2, h, _⟩ := tells_bind (Good.guard _) (fun _ => Good.all _) h
    obtain ⟨_, _, _, h3, h, _⟩ := tells_bind (Good.guard _) (fun _ => Good.all _) h
    obtain ⟨_, _, _, h4, h, _⟩ := tells_bind (Good.guard _) (fun _ => Good.all _) h
    obtain ⟨rfl, _⟩ := tells_pure h
    have h2 := of_decide_eq_true (tells_guard h2).1
    have h3 := of_decide_eq_true (tells_guard h3).1
    have h4 := of_decide_eq_true (tells_guard h4).1
    have hl := opt (optInt_sound hf hl)
    have hhi := opt (optInt_sound hf hhi)
    obtain ⟨hv, hsl⟩ := hc
    simp only [List.cons.injEq, and_true] at hv
    have hb := run_bounds (P := P) (w := k.w) false (len := s.length) (cap := s.length) hl hhi h2 h3 h4
    rw [hv]
    refine Does.pure hk (v := .string ⟨⟨(s.take hh.toNat).drop l.toNat⟩⟩) ?_ ⟨rfl, ?_⟩
    · have hsz : (⟨⟨s⟩⟩ : ByteArray).size = s.length := rfl
      simp only [Instr.sliceAt, Sem.run_bind, run_underlying ht, Result.andThen_ok, Instr.slice, Option.map_none, Option.isSome_none, Bool.false_eq_true, if_false, hsz, hb, Sem.run_pure, extract_str]
    · exact Nat.le_trans (by simp; omega) hsl
  · have hns : ∀ s, c ≠ C.v .str s := fun s h => hs ⟨s, h⟩
    split at h
    · exact absurd rfl (hns _)
    · exact rest hns hc h

end mem
end Go.MC

/- Indices, lengths, operators, conversions (general). -/
set_option linter.unusedVariables false
set_option linter.unusedSimpArgs false
namespace Go.MC
open Go.RowKit

section mem
variable {P : Program}

theorem has_wrap (k : IntKind) (n : Int) : k.has (k.wrap n) := wrap_within k n
theorem has_zero (k : IntKind) : k.min ≤ 0 ∧ 0 ≤ k.max := by cases k <;> decide
theorem has_tmod (k : IntKind) (x y : Int) (h : k.has x) : k.has (x.tmod y) := by
  obtain ⟨h0, h1⟩ := has_zero k
  obtain ⟨h2, h3⟩ := h
  have hab : (x.tmod y).natAbs ≤ x.natAbs := by rw [Int.natAbs_tmod]; exact Nat.mod_le _ _
  rcases Int.le_total 0 x with hx | hx
  · have a1 := Int.tmod_nonneg y hx
    exact ⟨by omega, by omega⟩
  · have hx' : 0 ≤ -x := by omega
    have e : x.tmod y = -((-x).tmod y) := by rw [Int.neg_tmod]; omega
    have a1 := Int.tmod_nonneg y hx'
    exact ⟨by omega, by omega⟩

theorem relC_int {F : Fx} {K : K} {k : IntKind} {n : Int} {v : Value} (h : relC F K (.v (.int k) n) v) : v = .int k n ∧ k.has n := by
  obtain ⟨h1, h2⟩ := h
  simp only [List.cons.injEq, and_true] at h1
  exact ⟨h1, h2⟩
theorem relC_str {F : Fx} {K : K} {s : List UInt8} {v : Value} (h : relC F K (.v .str s) v) : v = .string ⟨⟨s⟩⟩ ∧ s.length ≤ lim := by
  obtain ⟨h1, h2⟩ := h
  simp only [List.cons.injEq, and_true] at h1
  exact ⟨h1, h2⟩
theorem relC_bool {F : Fx} {K : K} {b : Bool} {v : Value} (h : relC F K (.v .bool b) v) : v = .bool b := by
  simp only [relC, Rd, List.cons.injEq, and_true] at h
  exact h

theorem index_sound {F : Fx} {k : K} (hk : HeapOK F k) {S : St} {a : Act} (hf : FrR F k S.fr a) {t : Nat} (ht : P.underlying t = some .string) {x i : Operand} {U : Upd} {R : List Nat} (h : Tells (indexStep x i) S U R) :
    Does P F k (Instr.index t (a.eval x) (a.eval i)) U := by
  unfold indexStep at h
  obtain ⟨c, _, _, hc, h, _⟩ := tells_bind (good_opC x) (fun _ => Good.all _) h
  have hc := opC_sound hf hc
  obtain ⟨s, rfl⟩ : ∃ s, c = .v .str s := by
    split at h
    · exact ⟨_, rfl⟩
    · exact (tells_fail h).elim
  obtain ⟨ci, _, _, hi, h, _⟩ := tells_bind (good_opC i) (fun _ => Good.all _) h
  have hi := opC_sound hf hi
  obtain ⟨kk, n, rfl⟩ : ∃ kk n, ci = .v (.int kk) n := by
    split at h
    · exact ⟨_, _, rfl⟩
    · exact (tells_fail h).elim
  obtain ⟨_, _, _, hr, h, _⟩ := tells_bind (good_inRange _ _) (fun _ => Good.all _) h
  obtain ⟨h0, h1⟩ := inRange_sound hr
  obtain ⟨rfl, _⟩ := tells_pure h
  obtain ⟨hc, _⟩ := relC_str hc
  obtain ⟨hi, _⟩ := relC_int hi
  rw [hc, hi]
  refine Does.pure hk (v := .int .u8 ((s.getD n.toNat 0).toNat : Int)) ?_ ⟨rfl, ?_⟩
  · rw [run_index_string _ t ⟨⟨s⟩⟩ kk n ht]
    have hsz : (⟨⟨s⟩⟩ : ByteArray).size = s.length := rfl
    rw [dif_pos ⟨h0, by rw [hsz]; exact h1⟩]
    have hlt : n.toNat < s.length := by omega
    have : ((⟨⟨s⟩⟩ : ByteArray)[n.toNat]'(by rw [hsz]; exact hlt)) = s.getD n.toNat 0 := by
      rw [List.getD_eq_getElem?_getD, List.getElem?_eq_getElem hlt]
      rfl
    rw [this]
  · have := (s.getD n.toNat 0).toNat_lt
    refine ⟨?_, ?_⟩
    · show (0 : Int) ≤ _
      omega
    · show _ ≤ (255 : Int)
      omega

theorem has_len (n : Nat) (h : n ≤ lim) : IntKind.i64.has (n : Int) := by
  have hl : lim = 140737488355328 := rfl
  refine ⟨?_, ?_⟩
  · show (-9223372036854775808 : Int) ≤ _
    omega
  · show _ ≤ (9223372036854775807 : Int)
    omega

theorem len_sound {F : Fx} {k : K} (hk : HeapOK F k) {S : St} (hS : k.h = lkH S.H) {a : Act} (hf : FrR F k S.fr a) {t : Nat} {sl : Bool} (ht : if sl = true then ∃ e, P.underlying t = some (.slice e) else P.underlying t = some .string) (ty : TypeId) {x : Operand} {U : Upd} {R : List Nat} (h : Tells (lenStep sl x) S U R) :
    Does P F k (Builtin.len_ #[t] ty #[a.eval x]) U := by
  unfold lenStep at h
  obtain ⟨c, _, _, hc, h, _⟩ := tells_bind (good_opC x) (fun _ => Good.all _) h
  have hc := opC_sound hf hc
  have rest : ∀ {R : List Nat}, Tells (M.bind (guardB sl) fun _ => M.bind (rowsOf c) fun
      | some p => M.pure ⟨.w (.one (.v (.int .i64) (p.2.length : Int))), []⟩
      | none => M.pure ⟨.w (.one (.v (.int .i64) (0 : Int))), []⟩) S U R → Does P F k (Builtin.len_ #[t] ty #[a.eval x]) U := by
    intro R h
    obtain ⟨_, _, _, h0, h, _⟩ := tells_bind (Good.guard _) (fun _ => Good.all _) h
    have h0 := (tells_guard h0).1
    rw [if_pos h0] at ht
    obtain ⟨e, ht⟩ := ht
    obtain ⟨p, _, _, hp, h, _⟩ := tells_bind (good_rowsOf c) (fun _ => Good.all _) h
    have hr := rowsOf_sound hk hS hp hc
    cases p with
    | none =>
      obtain ⟨rfl, _⟩ := tells_pure h
      rw [show a.eval x = .slice none 0 0 from hr]
      refine Does.pure hk (v := .int .i64 0) ?_ ⟨rfl, has_len 0 (Nat.zero_le _)⟩
      simp [Builtin.len_, run_underlying ht, goInt]
    | some p =>
      obtain ⟨rfl, _⟩ := tells_pure h
      obtain ⟨vs, ad, cap, _, hv, _, _, hl⟩ := hr
      rw [hv]
      refine Does.pure hk (v := .int .i64 p.2.length) ?_ ⟨rfl, has_len _ hl⟩
      simp [Builtin.len_, run_underlying ht, goInt]
  by_cases hs : ∃ s, c = C.v .str s
  · obtain ⟨s, rfl⟩ := hs
    obtain ⟨_, _, _, h0, h, _⟩ := tells_bind (Good.guard _) (fun _ => Good.all _) h
    have h0 := (tells_guard h0).1
    rw [if_neg (by simpa using h0)] at ht
    obtain ⟨rfl, _⟩ := tells_pure h
    obtain ⟨hc, hl⟩ := relC_str hc
    rw [hc]
    refine Does.pure hk (v := .int .i64 s.length) ?_ ⟨rfl, has_len _ hl⟩
    have hsz : (⟨⟨s⟩⟩ : ByteArray).size = s.length := rfl
    simp [Builtin.len_, run_underlying ht, goInt, hsz]
  · have hns : ∀ s, c ≠ C.v .str s := fun s h => hs ⟨s, h⟩
    split at h
    · exact absurd rfl (hns _)
    · exact rest h

theorem un_sound {F : Fx} {k : K} (hk : HeapOK F k) {S : St} {a : Act} (hf : FrR F k S.fr a) {op : UnOp} {x : Operand} {U : Upd} {R : List Nat} (h : Tells (unStep op x) S U R) : Does P F k (Op.unary op (a.eval x)) U := by
  unfold unStep at h
  obtain ⟨c, _, _, hc, h, _⟩ := tells_bind (good_opC x) (fun _ => Good.all _) h
  have hc := opC_sound hf hc
  cases c with
  | v t y =>
    cases t with
    | bool =>
      have := relC_bool hc
      rw [this]
      cases op with
      | not => obtain ⟨rfl, _⟩ := tells_pure h; exact Does.pure hk (v := .bool !y) rfl rfl
      | _ => exact (tells_fail h).elim
    | int kk =>
      obtain ⟨this, _⟩ := relC_int hc
      rw [this]
      cases op with
      | neg => obtain ⟨rfl, _⟩ := tells_pure h; exact Does.pure hk (v := .int kk (kk.wrap (0 - y))) rfl ⟨rfl, has_wrap _ _⟩
      | _ => exact (tells_fail h).elim
    | _ => exact (tells_fail h).elim
  | _ => exact (tells_fail h).elim

end mem
end Go.MC

/- Operators of two operands; conversions (general). -/
set_option linter.unusedVariables false
set_option linter.unusedSimpArgs false
namespace Go.MC
open Go.RowKit

section mem
variable {P : Program}

theorem append_str (a b : List UInt8) : (⟨⟨a⟩⟩ : ByteArray) ++ ⟨⟨b⟩⟩ = ⟨⟨a ++ b⟩⟩ := by
  apply ByteArray.ext
  rw [ByteArray.data_append]
  simp

theorem run_part_basic {t : TypeId} {d : TypeDesc} (hd : P.underlying t = some d) (h1 : ∀ gs, d ≠ .struct gs) (h2 : ∀ n e, d ≠ .array n e) {xs : List Value} {off : Nat} {v : Value} (hx : xs[off]? = some v) (w : World) : (part t xs.toArray off).run P w = .ok v w := by
  have : (isAgg t).run P w = .ok false w := by
    simp only [isAgg, Sem.run_bind, run_underlying hd, Result.andThen_ok]
    cases d <;> first | rfl | exact absurd rfl (h1 _) | exact absurd rfl (h2 _ _)
  simp only [part, Sem.run_bind, this, Result.andThen_ok, Bool.false_eq_true, if_false]
  simp [hx]

theorem getElem_drop {xs us : List Value} {i : Nat} {v : Value} (h : xs.drop i = v :: us) : xs[i]? = some v ∧ xs.drop (i + 1) = us := by
  constructor
  · have := congrArg (·[0]?) h
    simpa using this
  · rw [← List.drop_drop, h]
    rfl

theorem eqCells_bool {ts : List Ty} {cs ds : List C} {b : Bool} (h : eqCells (.bool :: ts) cs ds = some b) : ∃ x y cs' ds' b', cs = .v .bool x :: cs' ∧ ds = .v .bool y :: ds' ∧ eqCells ts cs' ds' = some b' ∧ b = ((x == y) && b') := by
  unfold eqCells at h
  split at h
  · rename_i h1; cases h1
  · rename_i ts' x cs' y ds' h1
    injection h1 with _ h1
    subst h1
    simp only [Option.map_eq_some_iff] at h
    obtain ⟨b', h2, h3⟩ := h
    exact ⟨x, y, cs', ds', b', rfl, rfl, h2, h3.symm⟩
  · rename_i h1; cases h1
  · rename_i h1; cases h1
  · cases h
theorem eqCells_str {ts : List Ty} {cs ds : List C} {b : Bool} (h : eqCells (.str :: ts) cs ds = some b) : ∃ x y cs' ds' b', cs = .v .str x :: cs' ∧ ds = .v .str y :: ds' ∧ eqCells ts cs' ds' = some b' ∧ b = ((x == y) && b') := by
  unfold eqCells at h
  split at h
  · rename_i h1; cases h1
  · rename_i h1; cases h1
  · rename_i h1; cases h1
  · rename_i ts' x cs' y ds' h1
    injection h1 with _ h1
    subst h1
    simp only [Option.map_eq_some_iff] at h
    obtain ⟨b', h2, h3⟩ := h
    exact ⟨x, y, cs', ds', b', rfl, rfl, h2, h3.symm⟩
  · cases h
theorem eqCells_int {k : IntKind} {ts : List Ty} {cs ds : List C} {b : Bool} (h : eqCells (.int k :: ts) cs ds = some b) : ∃ (x y : Int) (cs' ds' : List C) (b' : Bool), cs = .v (.int k) x :: cs' ∧ ds = .v (.int k) y :: ds' ∧ eqCells ts cs' ds' = some b' ∧ b = ((x == y) && b') := by
  unfold eqCells at h
  split at h
  · rename_i h1; cases h1
  · rename_i h1; cases h1
  · rename_i k' ts' i x cs' j y ds' h1
    injection h1 with h0 h1
    injection h0 with h0
    subst h0 h1
    cases hkk : (decide (i = k) && decide (j = k)) with
    | false => rw [hkk] at h; cases h
    | true =>
      rw [hkk] at h
      simp only [Bool.and_eq_true, decide_eq_true_eq] at hkk
      obtain ⟨rfl, rfl⟩ := hkk
      simp only [cond_true, Option.map_eq_some_iff] at h
      obtain ⟨b', h2, h3⟩ := h
      exact ⟨x, y, cs', ds', b', rfl, rfl, h2, h3.symm⟩
  · rename_i h1; cases h1
  · cases h

theorem eqFields_run {F : Fx} {k : K} (w : World) (d : Nat) {xs ys : List Value} : ∀ (fs : List Field) (i : Nat) (ts : List Ty) (cs ds : List C) (b : Bool) (us vs : List Value),
    (∀ (j : Nat) (f : Field), fs[j]? = some f → f.name ≠ "_" ∧ f.offset = i + j ∧ ((ts[j]? = some .bool ∧ P.underlying f.type = some .bool) ∨ (ts[j]? = some .str ∧ P.underlying f.type = some .string) ∨ ∃ k, ts[j]? = some (.int k) ∧ P.underlying f.type = some (.int k))) →
    fs.length = ts.length → eqCells ts cs ds = some b → relCs F k cs us → relCs F k ds vs → xs.drop i = us → ys.drop i = vs → (Op.eqFields (d + 1) xs.toArray ys.toArray fs).run P w = .ok b w
  | [], i, ts, cs, ds, b, us, vs, _, hl, he, hc, hd, hx, hy => by
    have : ts = [] := List.eq_nil_of_length_eq_zero hl.symm
    subst this
    cases cs with
    | nil =>
      cases ds with
      | nil => simp only [eqCells, Option.some.injEq] at he; subst he; rfl
      | cons d ds => simp [eqCells] at he
    | cons c cs => simp [eqCells] at he
  | f :: fs, i, [], cs, ds, b, us, vs, _, hl, he, hc, hd, hx, hy => by simp at hl
  | f :: fs, i, t :: ts, cs, ds, b, us, vs, hf, hl, he, hc, hd, hx, hy => by
    obtain ⟨hn, hoff, hty⟩ := hf 0 f rfl
    simp only [Nat.add_zero, List.getElem?_cons_zero, Option.some.injEq] at hoff hty
    have step : ∀ {c e : C} {cs' ds' : List C} (b' : Bool) (r : Bool) (dd : TypeDesc), cs = c :: cs' → ds = e :: ds' → P.underlying f.type = some dd → (∀ gs, dd ≠ .struct gs) → (∀ n e, dd ≠ .array n e) →
        (∀ u v, relC F k c u → relC F k e v → (Op.equalIn (d + 1) f.type u v).run P w = .ok r w) → eqCells ts cs' ds' = some b' → b = (r && b') → (Op.eqFields (d + 1) xs.toArray ys.toArray (f :: fs)).run P w = .ok b w := by
      rintro c e cs' ds' b' r dd rfl rfl htd hns hna hr hb' rfl
      obtain ⟨u, us', rfl, hcu, hcs⟩ := hc
      obtain ⟨hxi, hxd⟩ := getElem_drop hx
      obtain ⟨v, vs', rfl, hdv, hds⟩ := hd
      obtain ⟨hyi, hyd⟩ := getElem_drop hy
      have ih := eqFields_run w d fs (i + 1) ts cs' ds' b' us' vs' (fun j f' hj => by
        have := hf (j + 1) f' (by simpa using hj)
        rw [show i + (j + 1) = i + 1 + j by omega] at this
        simpa using this) (by simpa using hl) hb' hcs hds hxd hyd
      simp only [Op.eqFields, hn, ne_eq, not_false_eq_true, if_true, Sem.run_bind, hoff, run_part_basic htd hns hna hxi, run_part_basic htd hns hna hyi, Result.andThen_ok, hr u v hcu hdv]
      cases r
      · simp
      · simpa using ih
    rcases hty with ⟨rfl, hty⟩ | ⟨rfl, hty⟩ | ⟨kk, rfl, hty⟩
    · obtain ⟨x, y, cs', ds', b', h1, h2, h3, h4⟩ := eqCells_bool he
      refine step b' (x == y) .bool h1 h2 hty (fun _ h => by cases h) (fun _ _ h => by cases h) (fun u v hu hv => ?_) h3 h4
      rw [relC_bool (F := F) (K := k) hu, relC_bool (F := F) (K := k) hv]
      exact run_equalIn_bool w d f.type x y hty
    · obtain ⟨x, y, cs', ds', b', h1, h2, h3, h4⟩ := eqCells_str he
      refine step b' (x == y) .string h1 h2 hty (fun _ h => by cases h) (fun _ _ h => by cases h) (fun u v hu hv => ?_) h3 h4
      rw [(relC_str (F := F) (K := k) hu).1, (relC_str (F := F) (K := k) hv).1, run_equalIn_string w d f.type _ _ hty, ByteArray.toList_eq, ByteArray.toList_eq]
    · obtain ⟨x, y, cs', ds', b', h1, h2, h3, h4⟩ := eqCells_int he
      refine step b' (x == y) (.int kk) h1 h2 hty (fun _ h => by cases h) (fun _ _ h => by cases h) (fun u v hu hv => ?_) h3 h4
      rw [(relC_int (F := F) (K := k) hu).1, (relC_int (F := F) (K := k) hv).1]
      exact run_equalIn_int w d f.type kk kk x y hty

theorem run_eqGuard_int (op : BinOp) (t : TypeId) (x y : Operand) (j k : IntKind) (a b : Int) (w : World) : (eqGuard op t x y (.int j a) (.int k b)).run P w = .ok () w := by
  cases op <;> simp [eqGuard]
theorem run_eqGuard_str (op : BinOp) (t : TypeId) (x y : Operand) (a b : ByteArray) (w : World) : (eqGuard op t x y (.string a) (.string b)).run P w = .ok () w := by
  cases op <;> simp [eqGuard]
theorem run_eqGuard_bool (op : BinOp) (t : TypeId) (x y : Operand) (a b : Bool) (w : World) : (eqGuard op t x y (.bool a) (.bool b)).run P w = .ok () w := by
  cases op <;> simp [eqGuard]

theorem str_beq (a b : List UInt8) : ((⟨⟨a⟩⟩ : ByteArray).toList == (⟨⟨b⟩⟩ : ByteArray).toList) = (a == b) := by rw [ByteArray.toList_eq, ByteArray.toList_eq]

theorem bin_sound {F : Fx} {k : K} (hk : HeapOK F k) {S : St} {a : Act} (hf : FrR F k S.fr a) {TT : Nat → Option TD} (hTT : TTok P TT) {op : BinOp} {t : Nat} {x y : Operand} {U : Upd} {R : List Nat} (h : Tells (binStep TT op t x y) S U R) :
    Does P F k (do eqGuard op t x y (a.eval x) (a.eval y); binOp op t (a.eval x) (a.eval y)) U := by
  unfold binStep at h
  obtain ⟨vx, _, _, hx, h, _⟩ := tells_bind (good_opV x) (fun _ => Good.all _) h
  obtain ⟨vy, _, _, hy, h, _⟩ := tells_bind (good_opV y) (fun _ => Good.all _) h
  have hx := opV_sound hf hx
  have hy := opV_sound hf hy
  have bare : ∀ {v : Value} {c : C} {g : Sem Unit} {s : Sem Value}, g.run P k.w = .ok () k.w → s.run P k.w = .ok v k.w → relC F k c v → Does P F k (do g; s) ⟨.w (.one c), []⟩ := by
    intro v c g s h1 h2 h3
    exact Does.pure hk (v := v) (by simp [Sem.run_bind, h1, h2]) h3
  cases vx with
  | one cx =>
    cases cx with
    | v tx nx =>
      cases vy with
      | one cy =>
        cases cy with
        | v ty ny =>
          cases tx with
          | int j =>
            cases ty with
            | int j' =>
              obtain ⟨_, _, _, hj, h, _⟩ := tells_bind (Good.guard _) (fun _ => Good.all _) h
              have hj := of_decide_eq_true (tells_guard hj).1
              subst hj
              obtain ⟨ex, hx1⟩ := relC_int (F := F) (K := k) hx
              obtain ⟨ey, hy1⟩ := relC_int (F := F) (K := k) hy
              rw [ex, ey]
              cases op with
              | quo =>
                obtain ⟨_, _, _, hz, h, _⟩ := tells_bind (Good.guard _) (fun _ => Good.all _) h
                have hz := (tells_guard hz).1
                obtain ⟨rfl, _⟩ := tells_pure h
                have hz : ny ≠ 0 := by simpa using hz
                exact bare (v := .int j (j.wrap (nx.tdiv ny))) (run_eqGuard_int _ _ _ _ _ _ _ _ _) (by simp [binOp, Op.intDiv, hz]) ⟨rfl, has_wrap _ _⟩
              | rem =>
                obtain ⟨_, _, _, hz, h, _⟩ := tells_bind (Good.guard _) (fun _ => Good.all _) h
                have hz := (tells_guard hz).1
                obtain ⟨rfl, _⟩ := tells_pure h
                have hz : ny ≠ 0 := by simpa using hz
                exact bare (v := .int j (nx.tmod ny)) (run_eqGuard_int _ _ _ _ _ _ _ _ _) (by simp [binOp, Op.intDiv, hz]) ⟨rfl, has_tmod _ _ _ hx1⟩
              | _ =>
                obtain ⟨c, _, _, hc, h, _⟩ := tells_bind (Good.ofOpt _) (fun _ => Good.all _) h
                obtain ⟨rfl, _⟩ := tells_pure h
                obtain ⟨hc, _⟩ := tells_ofOpt hc
                simp only [intOp, Option.some.injEq] at hc
                first
                  | (cases hc; done)
                  | (subst hc; exact bare (run_eqGuard_int _ _ _ _ _ _ _ _ _) (by simp only [binOp, Op.intArith, Op.intCmp, Op.intBits, ne_eq, not_true_eq_false, if_false]; rfl) ⟨rfl, has_wrap _ _⟩)
                  | (subst hc; exact bare (run_eqGuard_int _ _ _ _ _ _ _ _ _) (by simp only [binOp, Op.intArith, Op.intCmp, Op.intBits, ne_eq, not_true_eq_false, if_false]; rfl) rfl)
            | _ => exact (tells_fail h).elim
          | str =>
            cases ty with
            | str =>
              obtain ⟨ex, hx1⟩ := relC_str (F := F) (K := k) hx
              obtain ⟨ey, hy1⟩ := relC_str (F := F) (K := k) hy
              rw [ex, ey]
              cases op with
              | add =>
                obtain ⟨_, _, _, hz, h, _⟩ := tells_bind (Good.guard _) (fun _ => Good.all _) h
                have hz := of_decide_eq_true (tells_guard hz).1
                obtain ⟨rfl, _⟩ := tells_pure h
                refine bare (v := .string ⟨⟨nx ++ ny⟩⟩) (run_eqGuard_str _ _ _ _ _ _ _) ?_ ⟨rfl, by simpa using hz⟩
                have e1 : (⟨⟨nx⟩⟩ : ByteArray).size = nx.length := rfl
                have e2 : (⟨⟨ny⟩⟩ : ByteArray).size = ny.length := rfl
                have hl : lim = 140737488355328 := rfl
                have hm : IntKind.i64.max = 9223372036854775807 := rfl
                have hn : ¬ (((nx.length + ny.length : Nat) : Int) > IntKind.i64.max) := by rw [hm]; omega
                simp only [binOp, Op.stringOp, e1, e2, hn, if_false, append_str]
                rfl
              | _ =>
                first
                  | exact (tells_fail h).elim
                  | (obtain ⟨rfl, _⟩ := tells_pure h; exact bare (run_eqGuard_str _ _ _ _ _ _ _) (by simp only [binOp, Op.stringOp, str_beq, ByteArray.toList_eq]; rfl) rfl)
            | _ => exact (tells_fail h).elim
          | bool =>
            cases ty with
            | bool =>
              have ex := relC_bool (F := F) (K := k) hx
              have ey := relC_bool (F := F) (K := k) hy
              rw [ex, ey]
              obtain ⟨td, _, _, ht, h, _⟩ := tells_bind (Good.ofOpt _) (fun _ => Good.all _) h
              obtain ⟨ht, _⟩ := tells_ofOpt ht
              have htd := hTT t td ht
              cases hty : td.ty with
              | bool =>
                rw [hty] at h
                have hu := htd.bool hty
                cases op with
                | eql =>
                  obtain ⟨rfl, _⟩ := tells_pure h
                  exact bare (v := .bool (nx == ny)) (run_eqGuard_bool _ _ _ _ _ _ _) (by simp [binOp, Op.equal, Op.maxDepth, run_equalIn_bool k.w 9999 t nx ny hu]) rfl
                | neq =>
                  obtain ⟨rfl, _⟩ := tells_pure h
                  exact bare (v := .bool !(nx == ny)) (run_eqGuard_bool _ _ _ _ _ _ _) (by simp [binOp, Op.equal, Op.maxDepth, run_equalIn_bool k.w 9999 t nx ny hu]) rfl
                | _ => exact (tells_fail h).elim
              | _ => rw [hty] at h; exact (tells_fail h).elim
            | _ => exact (tells_fail h).elim
          | _ => exact (tells_fail h).elim
        | _ => cases tx <;> exact (tells_fail h).elim
      | agg cs => cases tx <;> exact (tells_fail h).elim
    | _ => exact (tells_fail h).elim
  | agg as =>
    cases vy with
    | one cy => exact (tells_fail h).elim
    | agg bs =>
      obtain ⟨td, _, _, ht, h, _⟩ := tells_bind (Good.ofOpt _) (fun _ => Good.all _) h
      obtain ⟨ht, _⟩ := tells_ofOpt ht
      have htd := hTT t td ht
      obtain ⟨_, _, _, hg, h, _⟩ := tells_bind (Good.guard _) (fun _ => Good.all _) h
      have hg := (tells_guard hg).1
      have hq : td.eqs ≠ [] := by intro hh; rw [hh] at hg; cases hg
      obtain ⟨b, _, _, hb, h, _⟩ := tells_bind (Good.ofOpt _) (fun _ => Good.all _) h
      obtain ⟨hb, _⟩ := tells_ofOpt hb
      obtain ⟨fs, hu, hsh, heg, hfs, hfd⟩ := htd.eqs hq
      obtain ⟨us, ex, hus⟩ := hx
      obtain ⟨vs, ey, hvs⟩ := hy
      rw [ex, ey]
      have hfo : P.fieldsOf t = fs := by simp [Program.fieldsOf, hu]
      have hrun : (Op.equalIn 10000 t (.agg us.toArray) (.agg vs.toArray)).run P k.w = .ok b k.w := by
        rw [run_equalIn_struct k.w 9999 t _ _ (by rw [hfo]; exact hu) hsh, hfo]
        exact eqFields_run k.w 9998 fs.toList 0 td.eqs as bs b us vs (fun j f hj => by
          have := hfd j f hj
          rwa [Nat.zero_add]) (by rw [Array.length_toList]; exact hfs) hb hus hvs rfl rfl
      cases op with
      | eql =>
        obtain ⟨rfl, _⟩ := tells_pure h
        exact bare (v := .bool b) (run_eqGuard_agg k.w _ t x y _ _ heg) (by rw [run_eql_struct, hrun]; rfl) rfl
      | neq =>
        obtain ⟨rfl, _⟩ := tells_pure h
        exact bare (v := .bool !b) (run_eqGuard_agg k.w _ t x y _ _ heg) (by rw [run_neq_struct, hrun]; rfl) rfl
      | _ => exact (tells_fail h).elim

end mem
end Go.MC

/- Conversions; what one operation does (calls apart) (general). -/
set_option linter.unusedVariables false
set_option linter.unusedSimpArgs false
namespace Go.MC
open Go.RowKit

section mem
variable {P : Program}

theorem rdRows_ints {w : World} {ok : Nat → Prop} {kk : IntKind} : ∀ {xs : List Int} {vs : List Value}, RdRows w ok (.int kk) xs vs → vs = xs.map (Value.int kk)
  | [], _, h => h
  | x :: xs, _, h => by
    obtain ⟨v1, v2, rfl, h1, h2⟩ := h
    obtain ⟨rfl, _⟩ := h1
    rw [rdRows_ints h2]
    rfl

theorem conv_sound {F : Fx} {k : K} (hk : HeapOK F k) {S : St} (hS : k.h = lkH S.H) {a : Act} (hf : FrR F k S.fr a) {TT : Nat → Option TD} (hTT : TTok P TT) {src dst : Nat} {x : Operand} {U : Upd} {R : List Nat} (h : Tells (convStep TT src dst x) S U R) :
    Does P F k (convert src dst (a.eval x)) U := by
  unfold convStep at h
  obtain ⟨tds, _, _, h1, h, _⟩ := tells_bind (Good.ofOpt _) (fun _ => Good.all _) h
  obtain ⟨tdd, _, _, h2, h, _⟩ := tells_bind (Good.ofOpt _) (fun _ => Good.all _) h
  obtain ⟨c, _, _, hc, h, _⟩ := tells_bind (good_opC x) (fun _ => Good.all _) h
  obtain ⟨h1, _⟩ := tells_ofOpt h1
  obtain ⟨h2, _⟩ := tells_ofOpt h2
  have hs := hTT _ _ h1
  have hd := hTT _ _ h2
  have hc := opC_sound hf hc
  cases hts : tds.ty with
  | int j =>
    rw [hts] at h
    cases htd : tdd.ty with
    | int kk =>
      rw [htd] at h
      cases c with
      | v t n =>
        cases t with
        | int i =>
          obtain ⟨rfl, _⟩ := tells_pure h
          obtain ⟨e, _⟩ := relC_int (F := F) (K := k) hc
          rw [e]
          refine Does.pure hk (v := .int kk (kk.wrap n)) ?_ ⟨rfl, has_wrap _ _⟩
          simp [convert, run_underlying (hs.int j hts), run_underlying (hd.int kk htd), Conv.intToInt]
        | _ => exact (tells_fail h).elim
      | _ => exact (tells_fail h).elim
    | _ => rw [htd] at h; exact (tells_fail h).elim
  | slice r =>
    rw [hts] at h
    obtain ⟨hr, htd⟩ : r = .int .u8 ∧ tdd.ty = .str := by
      generalize h5 : tdd.ty = ty2 at h
      generalize h6 : Ty.slice r = ty1 at h
      split at h
      · cases h6
      · injection h6 with h6; exact ⟨h6, rfl⟩
      · exact (tells_fail h).elim
    subst hr
    rw [htd] at h
    obtain ⟨te, _, _, h3, h, _⟩ := tells_bind (Good.ofOpt _) (fun _ => Good.all _) h
    obtain ⟨p, _, _, hp, h, _⟩ := tells_bind (good_rowsOf c) (fun _ => Good.all _) h
    obtain ⟨h3, _⟩ := tells_ofOpt h3
    have hte := hTT _ _ h3
    have hr := rowsOf_sound hk hS hp hc
    have hsu := hs.sl _ hts
    have hdu := hd.str htd
    cases p with
    | none =>
      dsimp only at h
      cases hty : te.ty with
      | int kk =>
        rw [hty] at h
        cases kk with
        | u8 =>
          obtain ⟨rfl, _⟩ := tells_pure h
          rw [show a.eval x = .slice none 0 0 from hr]
          exact Does.pure hk (v := .string ByteArray.empty) (run_convert_bytes_nil k.w src tds.elem hsu (hte.int .u8 hty) 0 0 dst hdu) ⟨rfl, Nat.zero_le _⟩
        | _ => exact (tells_fail h).elim
      | _ => rw [hty] at h; exact (tells_fail h).elim
    | some p =>
      obtain ⟨r, xs⟩ := p
      cases r with
      | int kk =>
        cases kk with
        | u8 =>
          dsimp only at h
          cases hty : te.ty with
          | int kk =>
            rw [hty] at h
            cases kk with
            | u8 =>
              obtain ⟨rfl, _⟩ := tells_pure h
              obtain ⟨vs, ad, cap, hrows, hv, hat, _, hl⟩ := hr
              have hvs := rdRows_ints hrows
              subst hvs
              rw [hv]
              refine Does.pure hk (v := .string ⟨⟨xs.map byteOf⟩⟩) ?_ ⟨rfl, by simpa using hl⟩
              rw [run_convert_bytes_string k.w src dst tds.elem ad _ cap hsu (hte.int .u8 hty) hdu]
              by_cases hne : xs = []
              · subst hne
                cases ad with
                | none => simp [Conv.bytesToString]; rfl
                | some ad =>
                  rw [run_bytesToString k.w ad _ cap [] (by simpa using run_loadCells_list (P := P) k.w ad [] (fun i v hi => by simp at hi))]
                  rfl
              · obtain ⟨b, rfl, hcell⟩ := hat hne
                rw [run_bytesToString k.w b _ cap xs (by simpa using run_loadCells_list (P := P) k.w b _ hcell), foldl_push_bytes]
                have : (ByteArray.empty.data ++ (xs.map fun n => UInt8.ofNat n.toNat).toArray) = (⟨xs.map byteOf⟩ : Array UInt8) := by
                  simp [ByteArray.empty, ByteArray.emptyWithCapacity]
                  rfl
                rw [this]
            | _ => exact (tells_fail h).elim
          | _ => rw [hty] at h; exact (tells_fail h).elim
        | _ => exact (tells_fail h).elim
      | _ => exact (tells_fail h).elim
  | _ => rw [hts] at h; exact (tells_fail h).elim

/-- What an operation comes to: a value; nothing; a call. -/
def DoesN (P : Program) (F : Fx) (k : K) (s : Sem Next) (U : Upd) : Prop :=
  (∃ v k', s.run P k.w = .ok (.value v) k'.w ∧ k'.h = (k.put U.obs).h ∧ HeapOK F k' ∧ Le F k k' ∧ relA F k' U.val v) ∨
  (∃ k', s.run P k.w = .ok .skip k'.w ∧ k'.h = (k.put U.obs).h ∧ HeapOK F k' ∧ Le F k k' ∧ relA F k' U.val undef) ∨
  (∃ f args, s.run P k.w = .ok (.enter f args) k.w ∧ Calls P f args k.w fun e w' => ∃ v k', e = .returned v ∧ w' = k'.w ∧ k'.h = (k.put U.obs).h ∧ HeapOK F k' ∧ Le F k k' ∧ relA F k' U.val v)

theorem DoesN.wp {F : Fx} {k : K} {o : Oper} {a : Act} {U : Upd} (h : DoesN P F k (execOp a.eval o) U) {next : Act → World → Prop} {Q : Exit → Act → World → Prop}
    (hn : ∀ v k', k'.h = (k.put U.obs).h → HeapOK F k' → Le F k k' → relA F k' U.val v → next (a.put o.dst v) k'.w) : o.wp P a k.w next Q := by
  unfold Oper.wp
  rcases h with ⟨v, k', h1, h2, h3, h4, h5⟩ | ⟨k', h1, h2, h3, h4, h5⟩ | ⟨f, args, h1, h2⟩
  · rw [h1]; exact hn v k' h2 h3 h4 h5
  · rw [h1]; exact hn undef k' h2 h3 h4 h5
  · rw [h1, Oper.upon_enter]
    refine Calls.mono h2 fun e w' he => ?_
    obtain ⟨v, k', rfl, rfl, h4, h5, h6, h7⟩ := he
    exact hn v k' h4 h5 h6 h7

theorem does_n {F : Fx} {k : K} {s : Sem Value} {U : Upd} (h : Does P F k s U) : DoesN P F k (do pure (Next.value (← s))) U := by
  obtain ⟨v, k', h1, h2⟩ := h
  exact .inl ⟨v, k', by simp [Sem.run_bind, h1], h2⟩
theorem doesN_val {F : Fx} {k : K} (hk : HeapOK F k) {s : Sem Next} {v : Value} {c : AV} (h : s.run P k.w = .ok (.value v) k.w) (hr : relA F k c v) : DoesN P F k s ⟨c, []⟩ :=
  .inl ⟨v, k, h, (put_nil k).symm, hk, Le.refl F k, hr⟩
theorem doesU_n {F : Fx} {k : K} {s : Sem Unit} {U : Upd} (h : DoesU P F k s U) : DoesN P F k (do s; pure Next.skip) U := by
  obtain ⟨k', h1, h2, h3, h4, h5⟩ := h
  exact .inr (.inl ⟨k', by simp [Sem.run_bind, h1], h2, h3, h4, h5⟩)

end mem
end Go.MC

/- One operation (general). -/
set_option linter.unusedVariables false
set_option linter.unusedSimpArgs false
namespace Go.MC
open Go.RowKit

section mem
variable {P : Program}

/-- A call by a summary does as it says. -/
def CallOK (P : Program) (Φ : Nat → Option Summ) : Prop :=
  ∀ {F : Fx} {k : K} {S : St} {g : Nat} {s : Summ} {dst : Nat} {avs : List AV} {args : List Value} {U : Upd} {R : List Nat},
    HeapOK F k → k.h = lkH S.H → phiK Φ g avs = some s → relAs F k avs args → Tells (summStep s dst avs) S U R → DoesN P F k (callFunc g args.toArray) U
 where
  relAs (F : Fx) (k : K) : List AV → List Value → Prop
    | [], vs => vs = []
    | c :: cs, vs => ∃ v vs', vs = v :: vs' ∧ relA F k c v ∧ relAs F k cs vs'

theorem relAs_append {F : Fx} {k : K} : ∀ {cs ds : List AV} {us vs : List Value}, CallOK.relAs F k cs us → CallOK.relAs F k ds vs → CallOK.relAs F k (cs ++ ds) (us ++ vs)
  | [], _, _, _, h, g => by simp only [CallOK.relAs] at h; subst h; simpa using g
  | _ :: _, _, _, _, h, g => by
    obtain ⟨v, vs', rfl, h1, h2⟩ := h
    exact ⟨v, vs' ++ _, rfl, h1, relAs_append h2 g⟩

theorem opAs_sound {F : Fx} {k : K} {S : St} {a : Act} (hf : FrR F k S.fr a) : ∀ {xs : List Operand} {vs : List AV} {R : List Nat}, Tells (opAs xs) S vs R → CallOK.relAs F k vs (xs.map a.eval)
  | [], vs, R, h => by obtain ⟨rfl, _⟩ := tells_pure h; rfl
  | x :: xs, vs, R, h => by
    obtain ⟨v, R1, R2, h1, h2, _⟩ := tells_bind (good_opd x) (fun _ => Good.all _) h
    obtain ⟨vs', R3, R4, h3, h4, _⟩ := tells_bind (good_opAs xs) (fun _ => Good.all _) h2
    obtain ⟨rfl, _⟩ := tells_pure h4
    exact ⟨_, _, rfl, opd_sound hf h1, opAs_sound hf h3⟩

theorem pbIds_sound {F : Fx} {k : K} {S : St} {a : Act} (hf : FrR F k S.fr a) : ∀ {xs : List Operand} {l : List Nat} {R : List Nat}, Tells (pbIds xs) S l R → (∀ id ∈ l, ∃ cs, k.h id = some (.box cs)) ∧ xs.map a.eval = l.map fun id => Value.pointer (some ⟨k.μ id, 0, none⟩)
  | [], l, R, h => by obtain ⟨rfl, _⟩ := tells_pure h; exact ⟨fun _ hi => by simp at hi, rfl⟩
  | x :: xs, l, R, h => by
    unfold pbIds at h
    obtain ⟨c, _, _, hc, h, _⟩ := tells_bind (good_opC x) (fun _ => Good.all _) h
    have hr := opC_sound hf hc
    obtain ⟨id, rfl⟩ : ∃ id, c = .pb id 0 := by
      split at h
      · exact ⟨_, rfl⟩
      · exact (tells_fail h).elim
    obtain ⟨l', _, _, h3, h, _⟩ := tells_bind (good_pbIds xs) (fun _ => Good.all _) h
    obtain ⟨rfl, _⟩ := tells_pure h
    obtain ⟨h4, h5⟩ := pbIds_sound hf h3
    obtain ⟨h6, h7⟩ := hr
    refine ⟨fun i hi => ?_, by simp [h7, h5]⟩
    rcases List.mem_cons.1 hi with rfl | hi
    · exact h6
    · exact h4 i hi

theorem capC_rel {F : Fx} {k : K} : ∀ {caps : List Nat}, (∀ id ∈ caps, ∃ cs, k.h id = some (.box cs)) → CallOK.relAs F k (caps.map capC) (caps.map fun id => Value.pointer (some ⟨k.μ id, 0, none⟩))
  | [], _ => rfl
  | c :: cs, h => ⟨_, _, rfl, ⟨h c (by simp), rfl⟩, capC_rel fun id hi => h id (by simp [hi])⟩

/-- Who is called. -/
theorem callee_sound {F : Fx} {k : K} {S : St} {a : Act} (hf : FrR F k S.fr a) {f : Operand} {args : List Operand} {g : Nat} {avs : List AV} {R : List Nat} (h : Tells (calleeOf f args) S (g, avs) R) :
    ∃ vals, CallOK.relAs F k avs vals ∧ ∀ (ts : Array TypeId) (type : TypeId), ∀ w, ((do let d ← resolve a.eval { callee := .value f, args := args.toArray, argTypes := ts } type; invoke d.target d.args) : Sem Next).run P w = (callFunc g vals.toArray).run P w := by
  unfold calleeOf at h
  obtain ⟨c, _, _, hc, h, _⟩ := tells_bind (good_opC f) (fun _ => Good.all _) h
  have hr := opC_sound hf hc
  cases c with
  | fn g' caps =>
    obtain ⟨vs, _, _, hvs, h, _⟩ := tells_bind (good_opAs args) (fun _ => Good.all _) h
    obtain ⟨h3, _⟩ := tells_pure h
    obtain ⟨rfl, rfl⟩ := Prod.mk.inj h3
    obtain ⟨h4, h5⟩ := hr
    refine ⟨_, relAs_append (opAs_sound hf hvs) (capC_rel h4), fun ts type w => ?_⟩
    simp only [resolve, h5, Deferred.ofValue, Sem.run_bind, Sem.run_pure, Result.andThen_ok, invoke]
    simp
  | _ => exact (tells_fail h).elim

theorem elemOf_sound {TT : Nat → Option TD} (hTT : TTok P TT) {t : Nat} {td te : TD} (htd : TDok P t td) {S : St} {R : List Nat} (h : Tells (elemOf TT td) S te R) : P.underlying t = some (.slice td.elem) ∧ TDok P td.elem te := by
  unfold elemOf at h
  cases hty : td.ty with
  | slice r => rw [hty] at h; exact ⟨htd.sl r hty, hTT _ _ (tells_ofOpt h).1⟩
  | _ => rw [hty] at h; exact (tells_fail h).elim
theorem relVs_at {F : Fx} {k : K} : ∀ {cs : List V1} {vs : List Value}, relVs F k cs vs → ∀ (j : Nat) (c : V1), cs[j]? = some c → ∃ v, vs[j]? = some v ∧ relV F k c v
  | [], _, h, j, c, hj => by simp at hj
  | d :: ds, _, h, j, c, hj => by
    obtain ⟨v, vs', rfl, h1, h2⟩ := h
    cases j with
    | zero => simp at hj; subst hj; exact ⟨v, rfl, h1⟩
    | succ j => simpa using relVs_at h2 j c (by simpa using hj)

theorem step_sound {F : Fx} {k : K} (hk : HeapOK F k) {S : St} (hS : k.h = lkH S.H) {a : Act} (hf : FrR F k S.fr a) {TT : Nat → Option TD} (hTT : TTok P TT) {Φ : Nat → Option Summ} (hΦ : CallOK P Φ) {o : Oper} {U : Upd} {R : List Nat} (h : Tells (step TT Φ o) S U R) :
    DoesN P F k (execOp a.eval o) U := by
  obtain ⟨dst, op, type, pos, after, guard⟩ := o
  unfold step at h
  unfold execOp
  cases op with
  | move x | assign x =>
    obtain ⟨v, _, _, hv, h, _⟩ := tells_bind (good_opd x) (fun _ => Good.all _) h
    obtain ⟨rfl, _⟩ := tells_pure h
    exact doesN_val hk (v := a.eval x) rfl (opd_sound hf hv)
  | pick c x y =>
    obtain ⟨cc, _, _, hc, h, _⟩ := tells_bind (good_opC c) (fun _ => Good.all _) h
    have hc := opC_sound hf hc
    obtain ⟨t, rfl⟩ : ∃ t, cc = .v .bool t := by
      split at h
      · exact ⟨_, rfl⟩
      · exact (tells_fail h).elim
    have hc := relC_bool (F := F) (K := k) hc
    cases t with
    | true =>
      have h' : Tells (M.bind (opd x) fun v => M.pure ⟨v, []⟩) S U _ := h
      obtain ⟨v, _, _, hv, h', _⟩ := tells_bind (good_opd x) (fun _ => Good.all _) h'
      obtain ⟨rfl, _⟩ := tells_pure h'
      exact doesN_val hk (v := a.eval x) (by simp [hc, asBool]) (opd_sound hf hv)
    | false =>
      have h' : Tells (M.bind (opd y) fun v => M.pure ⟨v, []⟩) S U _ := h
      obtain ⟨v, _, _, hv, h', _⟩ := tells_bind (good_opd y) (fun _ => Good.all _) h'
      obtain ⟨rfl, _⟩ := tells_pure h'
      exact doesN_val hk (v := a.eval y) (by simp [hc, asBool]) (opd_sound hf hv)
  | alloc t =>
    obtain ⟨d, _, _, hd, h, _⟩ := tells_bind (good_dstOf _) (fun _ => Good.all _) h
    obtain ⟨td, _, _, ht, h, _⟩ := tells_bind (Good.ofOpt _) (fun _ => Good.all _) h
    obtain ⟨ob, _, _, ho, h, _⟩ := tells_bind (Good.rdO _) (fun _ => Good.all _) h
    obtain ⟨_, _, _, hg, h, _⟩ := tells_bind (Good.guard _) (fun _ => Good.all _) h
    obtain ⟨rfl, _⟩ := tells_pure h
    exact does_n (alloc_does hk (free_dst hS ho hg) (hTT _ _ (tells_ofOpt ht).1))
  | box t x =>
    obtain ⟨d, _, _, hd, h, _⟩ := tells_bind (good_dstOf _) (fun _ => Good.all _) h
    obtain ⟨v, _, _, hv, h, _⟩ := tells_bind (good_opV x) (fun _ => Good.all _) h
    obtain ⟨_, _, _, hkn, h, _⟩ := tells_bind (Good.guard _) (fun _ => Good.all _) h
    obtain ⟨ob, _, _, ho, h, _⟩ := tells_bind (Good.rdO _) (fun _ => Good.all _) h
    obtain ⟨_, _, _, hg, h, _⟩ := tells_bind (Good.guard _) (fun _ => Good.all _) h
    obtain ⟨rfl, _⟩ := tells_pure h
    obtain ⟨vs, h1, h2⟩ := relV_cells (opV_sound hf hv) (tells_guard hkn).1
    exact does_n (newVar_does hk (free_dst hS ho hg) (T := t) h1 h2)
  | build t parts =>
    obtain ⟨td, _, _, ht, h, _⟩ := tells_bind (Good.ofOpt _) (fun _ => Good.all _) h
    obtain ⟨_, _, _, hg, h, _⟩ := tells_bind (Good.guard _) (fun _ => Good.all _) h
    obtain ⟨vs, _, _, hvs, h, _⟩ := tells_bind (good_opVs _) (fun _ => Good.all _) h
    obtain ⟨cs, _, _, hcs, h, _⟩ := tells_bind (Good.ofOpt _) (fun _ => Good.all _) h
    obtain ⟨rfl, _⟩ := tells_pure h
    obtain ⟨v, h1, h2⟩ := build_sound hf hTT (hTT _ _ (tells_ofOpt ht).1) (tells_guard hg).1 hvs (tells_ofOpt hcs).1
    exact does_n (Does.pure hk h1 (a := .w (.agg cs)) h2)
  | buildSlice t len parts =>
    obtain ⟨d, _, _, hd, h, _⟩ := tells_bind (good_dstOf _) (fun _ => Good.all _) h
    obtain ⟨td, _, _, ht, h, _⟩ := tells_bind (Good.ofOpt _) (fun _ => Good.all _) h
    obtain ⟨te, _, _, hte, h, _⟩ := tells_bind (good_elemOf _ _) (fun _ => Good.all _) h
    obtain ⟨h1, h2⟩ := elemOf_sound hTT (hTT _ _ (tells_ofOpt ht).1) hte
    exact does_n (buildSlice_sound hk hS hf h1 h2 h)
  | load t x =>
    obtain ⟨td, _, _, ht, h, _⟩ := tells_bind (Good.ofOpt _) (fun _ => Good.all _) h
    obtain ⟨p, _, _, hp, h, _⟩ := tells_bind (good_opC x) (fun _ => Good.all _) h
    obtain ⟨v, _, _, hv, h, _⟩ := tells_bind (good_loadAt _ _) (fun _ => Good.all _) h
    obtain ⟨rfl, _⟩ := tells_pure h
    obtain ⟨v, h1, h2⟩ := loadAt_sound hk hS (hTT _ _ (tells_ofOpt ht).1) hv (opC_sound hf hp)
    exact does_n (Does.pure hk h1 h2)
  | store t x y =>
    obtain ⟨td, _, _, ht, h, _⟩ := tells_bind (Good.ofOpt _) (fun _ => Good.all _) h
    obtain ⟨p, _, _, hp, h, _⟩ := tells_bind (good_opC x) (fun _ => Good.all _) h
    obtain ⟨v, _, _, hv, h, _⟩ := tells_bind (good_opV y) (fun _ => Good.all _) h
    exact doesU_n (storeAt_sound hk hS (hTT _ _ (tells_ofOpt ht).1) h (opC_sound hf hp) (opV_sound hf hv))
  | nilCheck x =>
    obtain ⟨c, _, _, hc, h, _⟩ := tells_bind (good_opC x) (fun _ => Good.all _) h
    have hc := opC_sound hf hc
    have fin : ∀ {c : C} {ad : Addr} {R : List Nat}, relC F k c (a.eval x) → a.eval x = .pointer (some ad) → Tells (val c) S U R → DoesN P F k (match a.eval x with
        | .pointer none | .nilIface | .nilFunc => runtimePanic .nilDeref
        | .func (.method name) first captured =>
          match (first[0]? : Option Value) with
          | some .nilIface => runtimePanic .nilDeref
          | some (.iface t w) => do
            if (← nilAhead ((← program).types.size + Made.depth) t w name) != some false then
              unsupported (.noEntry "op/nilCheck.the method's receiver behind this interface value is a nil pointer, or cannot be seen to be none, and the arguments act or may panic (ledger 612)")
            pure (.value (.func (.method name) first captured))
          | _ => pure (.value (.func (.method name) first captured))
        | x => pure (.value x)) U := by
      intro c ad R hc hv h
      obtain ⟨rfl, _⟩ := tells_pure h
      rw [hv] at hc ⊢
      exact doesN_val hk rfl hc
    cases c with
    | pb id off => exact fin hc hc.2 h
    | pd t d => obtain ⟨ad, vs, hv, _⟩ := id hc; exact fin hc hv h
    | pa id j p =>
      have hc' := hc
      obtain ⟨⟨ad, hv⟩, hr⟩ := hc'
      exact fin hc hv h
    | _ => exact (tells_fail h).elim
  | binOp op t x y yt => exact does_n (bin_sound hk hf hTT h)
  | unOp op t x => exact does_n (un_sound hk hf h)
  | convert s d x => exact does_n (conv_sound hk hS hf hTT h)
  | makeFunc fn first caps =>
    cases fn with
    | func g =>
      obtain ⟨_, _, _, hg, h, _⟩ := tells_bind (Good.guard _) (fun _ => Good.all _) h
      have hg := (tells_guard hg).1
      obtain ⟨l, _, _, hl, h, _⟩ := tells_bind (good_pbIds _) (fun _ => Good.all _) h
      obtain ⟨rfl, _⟩ := tells_pure h
      obtain ⟨h1, h2⟩ := pbIds_sound hf hl
      have he : first = #[] := by simpa using hg
      subst he
      refine does_n (Does.pure hk (v := .func (.func g) #[] (caps.map a.eval)) (by simp [Instr.makeFunc]) ⟨h1, ?_⟩)
      rw [← h2]
      congr 1
      apply Array.ext'
      simp
    | _ => exact (tells_fail h).elim
  | makeSlice t l c =>
    obtain ⟨d, _, _, hd, h, _⟩ := tells_bind (good_dstOf _) (fun _ => Good.all _) h
    obtain ⟨td, _, _, ht, h, _⟩ := tells_bind (Good.ofOpt _) (fun _ => Good.all _) h
    obtain ⟨te, _, _, hte, h, _⟩ := tells_bind (good_elemOf _ _) (fun _ => Good.all _) h
    obtain ⟨h1, h2⟩ := elemOf_sound hTT (hTT _ _ (tells_ofOpt ht).1) hte
    exact does_n (make_sound hk hS hf h1 h2 h)
  | slice t x lo hi mx =>
    obtain ⟨td, _, _, ht, h, _⟩ := tells_bind (Good.ofOpt _) (fun _ => Good.all _) h
    have htd := hTT _ _ (tells_ofOpt ht).1
    cases hty : td.ty with
    | slice r =>
      rw [hty] at h
      obtain ⟨te, _, _, hte, h, _⟩ := tells_bind (Good.ofOpt _) (fun _ => Good.all _) h
      exact does_n (slice_sound hk hS hf (sl := true) (te := te) ⟨td.elem, htd.sl r hty, hTT _ _ (tells_ofOpt hte).1⟩ h)
    | str =>
      rw [hty] at h
      exact does_n (slice_sound hk hS hf (sl := false) (te := td) (htd.str hty) h)
    | _ => rw [hty] at h; exact (tells_fail h).elim
  | fieldAddr t x j =>
    obtain ⟨td, _, _, ht, h, _⟩ := tells_bind (Good.ofOpt _) (fun _ => Good.all _) h
    obtain ⟨p, _, _, hp, h, _⟩ := tells_bind (good_opC x) (fun _ => Good.all _) h
    obtain ⟨c, _, _, hc, h, _⟩ := tells_bind (good_fieldAddrAt _ _ _) (fun _ => Good.all _) h
    obtain ⟨rfl, _⟩ := tells_pure h
    obtain ⟨v, h1, h2⟩ := fieldAddrAt_sound hk hS (hTT _ _ (tells_ofOpt ht).1) hc (opC_sound hf hp)
    exact does_n (Does.pure hk h1 h2)
  | field t x j =>
    obtain ⟨td, _, _, ht, h, _⟩ := tells_bind (Good.ofOpt _) (fun _ => Good.all _) h
    obtain ⟨v, _, _, hv, h, _⟩ := tells_bind (good_opV x) (fun _ => Good.all _) h
    have hv := opV_sound hf hv
    have htd := hTT _ _ (tells_ofOpt ht).1
    cases v with
    | one c => exact (tells_fail h).elim
    | agg cs =>
      obtain ⟨f, _, _, hff, h, _⟩ := tells_bind (Good.ofOpt _) (fun _ => Good.all _) h
      obtain ⟨tf, _, _, htf, h, _⟩ := tells_bind (Good.ofOpt _) (fun _ => Good.all _) h
      obtain ⟨_, _, _, hg, h, _⟩ := tells_bind (Good.guard _) (fun _ => Good.all _) h
      have hfj := (tells_ofOpt hff).1
      have htf := hTT _ _ (tells_ofOpt htf).1
      have hle := Nat.le_of_ble_eq_true (tells_guard hg).1
      have hagg : td.agg = true := by
        cases ha : td.agg
        · rw [(htd.noagg ha).2.1] at hfj; simp at hfj
        · rfl
      obtain ⟨fs, hu, hfl⟩ := htd.agg hagg
      rw [← hfl] at hfj
      simp only [List.getElem?_map, Option.map_eq_some_iff] at hfj
      obtain ⟨fd, hfd, rfl⟩ := hfj
      obtain ⟨vs, hvx, hrel⟩ := hv
      have hlen := hrel.length
      obtain ⟨hpa, hpo⟩ := run_part_at htf (w := k.w) (cells := vs) (off := fd.offset) (by omega)
      obtain ⟨_, hdr⟩ := hrel.take fd.offset
      obtain ⟨htk, _⟩ := hdr.take tf.sz
      have hfd' : fs[j]? = some fd := by simpa using hfd
      have hrun : ∀ v, (part fd.type vs.toArray fd.offset).run P k.w = .ok v k.w → (Instr.field t (a.eval x) j).run P k.w = .ok v k.w := by
        intro v hv
        simp [Instr.field, run_underlying hu, hfd', hvx, asAgg, hv]
      cases ha : tf.agg with
      | true =>
        rw [ha] at h
        obtain ⟨rfl, _⟩ := tells_pure h
        exact does_n (Does.pure hk (a := .w (.agg _)) (hrun _ (hpa ha)) ⟨_, rfl, htk⟩)
      | false =>
        rw [ha] at h
        obtain ⟨v, hv1, hv2⟩ := hpo ha
        rw [hv1] at htk
        dsimp only at h htk
        generalize (cs.drop fd.offset).take tf.sz = cl at h htk
        match cl, htk.length with
        | [c], _ =>
          obtain ⟨rfl, _⟩ := tells_pure h
          obtain ⟨v', vs', h1, h2, _⟩ := htk
          cases h1
          exact does_n (Does.pure hk (a := .w (.one c)) (hrun _ hv2) h2)
  | indexAddr t x i =>
    obtain ⟨td, _, _, ht, h, _⟩ := tells_bind (Good.ofOpt _) (fun _ => Good.all _) h
    obtain ⟨te, _, _, hte, h, _⟩ := tells_bind (good_elemOf _ _) (fun _ => Good.all _) h
    obtain ⟨h1, h2⟩ := elemOf_sound hTT (hTT _ _ (tells_ofOpt ht).1) hte
    obtain ⟨cx, _, _, hx, h, _⟩ := tells_bind (good_opC x) (fun _ => Good.all _) h
    obtain ⟨ci, _, _, hi, h, _⟩ := tells_bind (good_opC i) (fun _ => Good.all _) h
    have hi := opC_sound hf hi
    obtain ⟨kk, n, rfl⟩ : ∃ kk n, ci = .v (.int kk) n := by
      split at h
      · exact ⟨_, _, rfl⟩
      · exact (tells_fail h).elim
    obtain ⟨c, _, _, hc, h, _⟩ := tells_bind (good_indexAddrAt _ _ _) (fun _ => Good.all _) h
    obtain ⟨rfl, _⟩ := tells_pure h
    obtain ⟨v, h3, h4⟩ := indexAddrAt_sound hk hS h1 h2 hc (opC_sound hf hx) kk
    rw [← (relC_int (F := F) (K := k) hi).1] at h3
    exact does_n (Does.pure hk h3 h4)
  | index t x i =>
    obtain ⟨td, _, _, ht, h, _⟩ := tells_bind (Good.ofOpt _) (fun _ => Good.all _) h
    have htd := hTT _ _ (tells_ofOpt ht).1
    cases hty : td.ty with
    | str => rw [hty] at h; exact does_n (index_sound hk hf (htd.str hty) h)
    | _ => rw [hty] at h; exact (tells_fail h).elim
  | extract x j =>
    obtain ⟨v, _, _, hv, h, _⟩ := tells_bind (good_opd x) (fun _ => Good.all _) h
    have hv := opd_sound hf hv
    cases v with
    | w v => exact (tells_fail h).elim
    | tup vs =>
      obtain ⟨v, _, _, hvj, h, _⟩ := tells_bind (Good.ofOpt _) (fun _ => Good.all _) h
      obtain ⟨rfl, _⟩ := tells_pure h
      obtain ⟨xs, hx, hr⟩ := hv
      obtain ⟨y, hy, hry⟩ := relVs_at hr j v (tells_ofOpt hvj).1
      exact does_n (Does.pure hk (a := .w v) (v := y) (by simp [Instr.extract, hx, hy]) hry)
  | call c =>
    obtain ⟨callee, args, ts⟩ := c
    cases callee with
    | value f =>
      obtain ⟨⟨g, avs⟩, _, _, hg, h, _⟩ := tells_bind (good_calleeOf _ _) (fun _ => Good.all _) h
      obtain ⟨s, _, _, hs, h, _⟩ := tells_bind (Good.ofOpt _) (fun _ => Good.all _) h
      obtain ⟨vals, h1, h2⟩ := callee_sound hf hg
      have := hΦ hk hS (tells_ofOpt hs).1 h1 h
      have h3 := h2 ts type k.w
      have hargs : args.toList.toArray = args := by simp
      rw [hargs] at h3
      unfold DoesN at this ⊢
      dsimp only
      rw [h3]
      exact this
    | builtin b =>
      cases b with
      | len =>
        obtain ⟨x, t, ha, ht⟩ : ∃ x t, args.toList = [x] ∧ ts.toList = [t] := by
          dsimp only at h
          split at h
          · exact ⟨_, _, by assumption, by assumption⟩
          · exact (tells_fail h).elim
        dsimp only at h
        rw [ha, ht] at h
        obtain rfl : args = #[x] := Array.ext' ha
        obtain rfl : ts = #[t] := Array.ext' ht
        obtain ⟨td, _, _, htt, h, _⟩ := tells_bind (Good.ofOpt _) (fun _ => Good.all _) h
        have htd := hTT _ _ (tells_ofOpt htt).1
        have hb : ∀ {sl : Bool} {R : List Nat}, (if sl = true then ∃ e, P.underlying t = some (.slice e) else P.underlying t = some .string) → Tells (lenStep sl x) S U R →
            DoesN P F k (do let d ← resolve a.eval { callee := .builtin .len, args := #[x], argTypes := #[t] } type; invoke d.target d.args) U := by
          intro sl R ht h
          have := does_n (len_sound hk hS hf ht type h)
          unfold DoesN at this ⊢
          have e : ((do let d ← resolve a.eval { callee := .builtin .len, args := #[x], argTypes := #[t] } type; invoke d.target d.args) : Sem Next).run P k.w = ((do pure (Next.value (← Builtin.len_ #[t] type #[a.eval x])) : Sem Next)).run P k.w := by
            simp only [resolve, Sem.run_bind, Sem.run_pure, Result.andThen_ok, invoke, builtin]
            rw [show #[x].map a.eval = #[a.eval x] by simp]
          rw [e]
          exact this
        cases hty : td.ty with
        | slice r => rw [hty] at h; exact hb (sl := true) ⟨_, htd.sl r hty⟩ h
        | str => rw [hty] at h; exact hb (sl := false) (htd.str hty) h
        | _ => rw [hty] at h; exact (tells_fail h).elim
      | append =>
        obtain ⟨x, y, t, t', ha, ht⟩ : ∃ x y t t', args.toList = [x, y] ∧ ts.toList = [t, t'] := by
          dsimp only at h
          split at h
          · exact ⟨_, _, _, _, by assumption, by assumption⟩
          · exact (tells_fail h).elim
        dsimp only at h
        rw [ha, ht] at h
        obtain rfl : args = #[x, y] := Array.ext' ha
        obtain rfl : ts = #[t, t'] := Array.ext' ht
        obtain ⟨_, _, _, hg, h0, _⟩ := tells_bind (Good.guard _) (fun _ => Good.all _) h
        obtain rfl := Nat.eq_of_beq_eq_true (tells_guard hg).1
        clear h
        have h := h0
        clear h0
        obtain ⟨d, _, _, hd, h, _⟩ := tells_bind (good_dstOf _) (fun _ => Good.all _) h
        obtain ⟨td, _, _, htt, h, _⟩ := tells_bind (Good.ofOpt _) (fun _ => Good.all _) h
        obtain ⟨te, _, _, hte, h, _⟩ := tells_bind (good_elemOf _ _) (fun _ => Good.all _) h
        obtain ⟨h1, h2⟩ := elemOf_sound hTT (hTT _ _ (tells_ofOpt htt).1) hte
        have := does_n (append_sound hk hS hf h1 h2 type h)
        unfold DoesN at this ⊢
        have e : ((do let d ← resolve a.eval { callee := .builtin .append, args := #[x, y], argTypes := #[t, t] } type; invoke d.target d.args) : Sem Next).run P k.w = ((do pure (Next.value (← Builtin.append_ #[t, t] type #[a.eval x, a.eval y])) : Sem Next)).run P k.w := by
          simp only [resolve, Sem.run_bind, Sem.run_pure, Result.andThen_ok, invoke, builtin]
          rw [show #[x, y].map a.eval = #[a.eval x, a.eval y] by simp]
        dsimp only
        rw [e]
        exact this
      | _ => exact (tells_fail h).elim
    | invoke r m => exact (tells_fail h).elim
  | _ => exact (tells_fail h).elim

end mem
end Go.MC

/- Regions in text order (general). -/
set_option linter.unusedVariables false
set_option linter.unusedSimpArgs false
namespace Go.MC
open Go.RowKit

/-- 'Le', of some blocks alone. -/
structure LeOn (F : Fx) (G : Nat → Prop) (k k' : K) : Prop where
  size : k.w.heap.size ≤ k'.w.heap.size
  ok : ∀ b, k.ok F b → k'.ok F b
  hp : ∀ b, k.ok F b → b < k.w.heap.size → k'.w.heap[b]? = k.w.heap[b]?
  box : ∀ id, G id → ∀ cs, k.h id = some (.box cs) → (∃ cs', k'.h id = some (.box cs')) ∧ k'.μ id = k.μ id
  arr : ∀ id, G id → ∀ e r xs, k.h id = some (.arr e r xs) → (∃ xs', k'.h id = some (.arr e r xs') ∧ xs'.length = xs.length ∧ k'.ν id = k.ν id) ∨ (∃ r' xs', k'.h id = some (.imm r' xs') ∧ k'.ν id = k.ν id) ∨ k'.h id = some .gone
  imm : ∀ id, G id → ∀ r xs, k.h id = some (.imm r xs) → ∃ r' xs', k'.h id = some (.imm r' xs') ∧ k'.ν id = k.ν id
  gone : ∀ id, G id → k.h id = some .gone → k'.h id = some .gone

theorem Le.on {F : Fx} {k k' : K} (h : Le F k k') (G : Nat → Prop) : LeOn F G k k' :=
  ⟨h.size, h.ok, h.hp, fun id _ => h.box id, fun id _ => h.arr id, fun id _ => h.imm id, fun id _ => h.gone id⟩
theorem LeOn.le {F : Fx} {G : Nat → Prop} {k k' : K} (h : LeOn F G k k') (hG : ∀ id o, k.h id = some o → G id) : Le F k k' :=
  ⟨h.size, h.ok, h.hp, fun id cs hc => h.box id (hG _ _ hc) cs hc, fun id e r xs hc => h.arr id (hG _ _ hc) e r xs hc, fun id r xs hc => h.imm id (hG _ _ hc) r xs hc, fun id hc => h.gone id (hG _ _ hc) hc⟩

theorem LeOn.trans {F : Fx} {G G' : Nat → Prop} {a b c : K} (h : LeOn F G a b) (g : LeOn F G' b c) (hG : ∀ id, G id → G' id) : LeOn F G a c := by
  refine ⟨Nat.le_trans h.size g.size, fun x hx => g.ok x (h.ok x hx), fun x hx hlt => (g.hp x (h.ok x hx) (Nat.lt_of_lt_of_le hlt h.size)).trans (h.hp x hx hlt), fun id hi cs hc => ?_, fun id hi e r xs hc => ?_, fun id hi r xs hc => ?_, fun id hi hc => g.gone id (hG id hi) (h.gone id hi hc)⟩
  · obtain ⟨⟨cs', h1⟩, h2⟩ := h.box id hi cs hc
    obtain ⟨h3, h4⟩ := g.box id (hG id hi) cs' h1
    exact ⟨h3, h4.trans h2⟩
  · rcases h.arr id hi e r xs hc with ⟨xs', h1, h3, h2⟩ | ⟨r', xs', h1, h2⟩ | h1
    · rcases g.arr id (hG id hi) e r xs' h1 with ⟨xs2, h4, h6, h5⟩ | ⟨r2, xs2, h4, h5⟩ | h4
      · exact .inl ⟨xs2, h4, h6.trans h3, h5.trans h2⟩
      · exact .inr (.inl ⟨r2, xs2, h4, h5.trans h2⟩)
      · exact .inr (.inr h4)
    · obtain ⟨r2, xs2, h4, h5⟩ := g.imm id (hG id hi) r' xs' h1
      exact .inr (.inl ⟨r2, xs2, h4, h5.trans h2⟩)
    · exact .inr (.inr (g.gone id (hG id hi) h1))
  · obtain ⟨r', xs', h1, h2⟩ := h.imm id hi r xs hc
    obtain ⟨r2, xs2, h3, h4⟩ := g.imm id (hG id hi) r' xs' h1
    exact ⟨r2, xs2, h3, h4.trans h2⟩
theorem LeOn.step {F : Fx} {G : Nat → Prop} {a b c : K} (h : LeOn F G a b) (g : Le F b c) : LeOn F G a c := h.trans (g.on G) fun _ h => h

/-- A state, as the machine has it. -/
structure Sim (F : Fx) (k : K) (S : St) (a : Act) (nt : Nat) : Prop where
  hk : HeapOK F k
  hS : k.h = lkH S.H
  hf : FrR F k S.fr a
  sz : a.tmps.size = nt
  df : a.defers = []

def dstB (nt : Nat) : Option Nat → Bool
  | some d => Nat.blt d nt
  | none => true

theorem put_sz (a : Act) (dst : Option Tmp) (v : Value) : (a.put dst v).tmps.size = a.tmps.size := by cases dst <;> simp [Act.put]
theorem put_df (a : Act) (dst : Option Tmp) (v : Value) : (a.put dst v).defers = a.defers := by cases dst <;> rfl

theorem lkF_cons (j : Nat) (v : AV) (fr : List (Nat × AV)) (t : Nat) : lkF ((j, v) :: fr) t = if t = j then v else lkF fr t := by
  simp only [lkF]
  by_cases h : t = j
  · subst h; simp [Nat.beq_refl]
  · have : Nat.beq j t = false := by
      cases hb : Nat.beq j t
      · rfl
      · exact absurd (Nat.eq_of_beq_eq_true hb).symm h
    simp [this, h]

theorem FrR.put {F : Fx} {k : K} {fr : List (Nat × AV)} {a : Act} (hf : FrR F k fr a) {dst : Option Tmp} {c : AV} {v : Value} (hd : dstB a.tmps.size dst = true) (hr : relA F k c v) : FrR F k (putF dst c fr) (a.put dst v) := by
  cases dst with
  | none => exact hf
  | some d =>
    have hd : d < a.tmps.size := by simpa [dstB, Nat.blt_eq] using hd
    intro t
    show relA F k (lkF ((d, c) :: fr) t) _
    rw [lkF_cons]
    by_cases h : t = d
    · subst h
      rw [if_pos rfl]
      have : (a.put (some t) v).eval (.tmp t) = v := by simp [Act.put, Act.eval, hd]
      rw [this]
      exact hr
    · rw [if_neg h, Act.eval_put (fun d' hd' he => by injection hd' with hd'; injection he with he; exact h (he.trans hd'.symm))]
      exact hf t

theorem sim_app {F : Fx} {k k' : K} {S : St} {a : Act} {nt : Nat} (h : Sim F k S a nt) {dst : Option Tmp} {U : Upd} {v : Value} (hd : dstB nt dst = true) (hh : k'.h = (k.put U.obs).h) (hk' : HeapOK F k') (hle : Le F k k') (hr : relA F k' U.val v) :
    Sim F k' (app dst U S) (a.put dst v) nt :=
  ⟨hk', by rw [hh, put_h h.hS]; rfl, (h.hf.le hle).put (by rw [h.sz]; exact hd) hr, (put_sz _ _ _).trans h.sz, (put_df _ _ _).trans h.df⟩

theorem sim_skip {F : Fx} {k : K} {S : St} {a : Act} {nt : Nat} (h : Sim F k S a nt) {dst : Option Tmp} (hd : dstB nt dst = true) : Sim F k (app dst unk S) (a.put dst undef) nt :=
  ⟨h.hk, h.hS, h.hf.put (by rw [h.sz]; exact hd) rfl, (put_sz _ _ _).trans h.sz, (put_df _ _ _).trans h.df⟩

/-- A slot's Bool. -/
theorem onBool_sound {ρ : Type} {r : ρ} {F : Fx} {k : K} {S : St} {a : Act} {nt i : Nat} (hs : Sim F k S a nt) {kt kf : St → Option ρ} (h : onBool S i kt kf = some r) :
    ∃ b, a.eval (.tmp i) = .bool b ∧ lkF S.fr i = bV b ∧ (if b = true then kt (setS S i (bV true)) = some r else kf (setS S i (bV false)) = some r) ∧ Sim F k (setS S i (bV b)) a nt := by
  unfold onBool at h
  split at h
  · rename_i b heq
    have hr := hs.hf i
    rw [heq] at hr
    have hv := relC_bool (F := F) (K := k) hr
    refine ⟨b, hv, heq, ?_, hs.hk, hs.hS, fun t => ?_, hs.sz, hs.df⟩
    · cases b
      · simpa using h
      · simpa using h
    · show relA F k (lkF ((i, bV b) :: S.fr) t) _
      rw [lkF_cons]
      split
      · rename_i ht; subst ht; rw [hv]; exact rfl
      · exact hs.hf t
  · cases h

theorem onBool3_sound {ρ : Type} {r : ρ} {F : Fx} {k : K} {S : St} {a : Act} {nt i : Nat} (hs : Sim F k S a nt) {kt kf kn : St → Option ρ} (h : onBool3 S i kt kf kn = some r) :
    (∃ b, a.eval (.tmp i) = .bool b ∧ lkF S.fr i = bV b ∧ (if b = true then kt (setS S i (bV true)) = some r else kf (setS S i (bV false)) = some r) ∧ Sim F k (setS S i (bV b)) a nt) ∨ (a.eval (.tmp i) = undef ∧ lkF S.fr i = .w (.one .nd) ∧ kn S = some r) := by
  unfold onBool3 at h
  split at h
  · rename_i b heq
    exact .inl (onBool_sound hs (kt := kt) (kf := kf) (by unfold onBool; rw [heq]; exact h))
  · rename_i heq
    have hr := hs.hf i
    rw [heq] at hr
    exact .inr ⟨hr, heq, h⟩
  · cases h

theorem wanted_undef {ops : Array Oper} {o : Oper} {j s : Nat} {want : Bool} {a : Act} (hg : o.guard = some (j, want)) (hs : guardSlot ops.toList j = some s) (hv : a.eval (.tmp s) = undef) : Region.wanted o (yielded ops a.tmps) = false := by
  have h1 : ((ops[j]?).bind (·.dst)).bind (a.tmps[·]?) = none ∨ ((ops[j]?).bind (·.dst)).bind (a.tmps[·]?) = some undef := by
    unfold guardSlot at hs
    rw [Array.getElem?_toList] at hs
    rw [hs]
    simp only [Option.bind_some]
    simp only [Act.eval, Array.getD_eq_getD_getElem?] at hv
    cases h2 : a.tmps[s]? with
    | none => exact .inl rfl
    | some v =>
      rw [h2] at hv
      exact .inr (by rw [← hv]; rfl)
  unfold Region.wanted
  rw [hg]
  rcases h1 with h1 | h1 <;> simp [yielded, h1, undef]

theorem wanted_of {ops : Array Oper} {o : Oper} {j s : Nat} {want b : Bool} {a : Act} (hg : o.guard = some (j, want)) (hs : guardSlot ops.toList j = some s) (hv : a.eval (.tmp s) = .bool b) : Region.wanted o (yielded ops a.tmps) = (b == want) := by
  have h1 : ((ops[j]?).bind (·.dst)).bind (a.tmps[·]?) = some (.bool b) := by
    unfold guardSlot at hs
    rw [Array.getElem?_toList] at hs
    rw [hs]
    simp only [Option.bind_some]
    simp only [Act.eval, Array.getD_eq_getD_getElem?] at hv
    cases h : a.tmps[s]? with
    | none => rw [h] at hv; cases hv
    | some v => rw [h] at hv; simp at hv; rw [hv]
  unfold Region.wanted yielded
  simp only [hg, h1]
  cases b <;> cases want <;> rfl

section mem
variable {P : Program}

/-- Calls that are entered do as the interpreter tells. -/
def InlOK (P : Program) (inl : (ρ : Type) → Nat → List AV → List (Nat × Ob) → (AV → List (Nat × Ob) → Option ρ) → Option ρ) : Prop :=
  ∀ {ρ : Type} {g : Nat} {vs : List AV} {H : List (Nat × Ob)} {kont : AV → List (Nat × Ob) → Option ρ} {r : ρ}, inl ρ g vs H kont = some r →
    ∀ {F : Fx} {k : K} {args : List Value}, HeapOK F k → k.h = lkH H → CallOK.relAs F k vs args → ∀ {R : Ending → World → Prop},
      (∀ v av k' H', kont av H' = some r → k'.h = lkH H' → HeapOK F k' → Le F k k' → relA F k' av v → R (.returned v) k'.w) →
        (∀ w, (callFunc g args.toArray).run P w = .ok (.enter g args.toArray) w) ∧ Calls P g args.toArray k.w R

structure EnvOK (P : Program) (E : Env) : Prop where
  TT : TTok P E.TT
  Φ : CallOK P E.Φ
  inl : InlOK P E.inl
  mixed : P.follows .mixedOrders = true

theorem runStep_sound {E : Env} (hE : EnvOK P E) {ρ : Type} {r : ρ} {o : Oper} {F : Fx} {k : K} {S : St} {a : Act} {nt : Nat} (hs : Sim F k S a nt) (hd : dstB nt o.dst = true) {kont : St → Option ρ}
    (h : step E.TT E.Φ o ρ S [] (fun U _ => kont (app o.dst U S)) = some r) {next : Act → World → Prop} {Q : Exit → Act → World → Prop}
    (hn : ∀ S' k' a', kont S' = some r → Sim F k' S' a' nt → Le F k k' → next a' k'.w) : o.wp P a k.w next Q := by
  obtain ⟨U, R, ht, hr⟩ := (good_step E.TT E.Φ o).tells h
  exact (step_sound hs.hk hs.hS hs.hf hE.TT hE.Φ ht).wp fun v k' hh hk' hle hv => hn _ k' _ hr (sim_app hs hd hh hk' hle hv) hle

theorem runOp_sound {E : Env} (hE : EnvOK P E) {ρ : Type} {r : ρ} {o : Oper} {F : Fx} {k : K} {S : St} {a : Act} {nt : Nat} (hs : Sim F k S a nt) (hd : dstB nt o.dst = true) {kont : St → Option ρ}
    (h : runOp E o S kont = some r) {next : Act → World → Prop} {Q : Exit → Act → World → Prop}
    (hn : ∀ S' k' a', kont S' = some r → Sim F k' S' a' nt → Le F k k' → next a' k'.w) : o.wp P a k.w next Q := by
  obtain ⟨dst, op, type, pos, after, guard⟩ := o
  unfold runOp at h
  split at h
  · rename_i f args ts hop
    dsimp only at hop
    subst hop
    obtain ⟨⟨g, avs⟩, R, ht, hr⟩ := (good_calleeOf f args.toList).tells h
    dsimp only at hr
    cases hΦ : phiK E.Φ g avs with
    | some s =>
      rw [hΦ] at hr
      refine runStep_sound hE hs hd (kont := kont) ?_ hn
      show (M.bind (calleeOf f args.toList) fun ga => M.bind (ofOpt (phiK E.Φ ga.1 ga.2)) fun s => summStep s (dst.getD 0) ga.2) ρ S [] _ = some r
      obtain ⟨U, R2, ht2, hr2⟩ := (good_summStep s (dst.getD 0) avs).tells hr
      have e1 := ht S (fun _ _ => Agree.refl _ _) ρ [] (fun ga L' => (M.bind (ofOpt (phiK E.Φ ga.1 ga.2)) fun s => summStep s (dst.getD 0) ga.2) ρ S L' fun U _ => kont (app dst U S))
      refine (run_bind _ _ _ _ _ _).trans (e1.trans ?_)
      show (M.bind (ofOpt (phiK E.Φ g avs)) fun s => summStep s (dst.getD 0) avs) ρ S _ _ = some r
      rw [hΦ]
      exact (ht2 S (fun _ _ => Agree.refl _ _) ρ _ _).trans hr2
    | none =>
      rw [hΦ] at hr
      dsimp only at hr
      obtain ⟨vals, h1, h2⟩ := callee_sound hs.hf ht
      have h3 := h2 ts type k.w
      have hargs : args.toList.toArray = args := by simp
      rw [hargs] at h3
      obtain ⟨h4, h5⟩ := hE.inl hr hs.hk hs.hS h1 (R := fun e w' => ∃ v, e = .returned v ∧ next (a.put dst v) w') (fun v av k' H' hk1 hk2 hk3 hle hv =>
        ⟨v, rfl, hn _ k' _ hk1 ⟨hk3, hk2, (hs.hf.le hle).put (by rw [hs.sz]; exact hd) hv, (put_sz _ _ _).trans hs.sz, (put_df _ _ _).trans hs.df⟩ hle⟩)
      unfold Oper.wp
      have e : (execOp a.eval ({ dst := dst, op := Op.call { callee := Callee.value f, args := args, argTypes := ts }, type := type, pos := pos, after := after, guard := guard } : Oper)).run P k.w = .ok (.enter g vals.toArray) k.w := by
        rw [← h4 k.w, ← h3]
        rfl
      rw [e, Oper.upon_enter]
      refine Calls.mono h5 ?_
      rintro e w' ⟨v, rfl, hv⟩
      exact hv
  · exact runStep_sound hE hs hd h hn

theorem runOps_sound {E : Env} (hE : EnvOK P E) {ρ : Type} {r : ρ} {ops : Array Oper} {F : Fx} {G : Nat → Prop} {k0 : K} {nt : Nat} {Q : Exit → Act → World → Prop} {kont : St → Option ρ}
    (hQ : ∀ S' k' a', kont S' = some r → Sim F k' S' a' nt → LeOn F G k0 k' → Q .normal a' k'.w) :
    ∀ {rest : List Oper} {k : K} {S : St} {a : Act}, (∀ o ∈ rest, dstB nt o.dst = true) → runOps E ops.toList rest S kont = some r → Sim F k S a nt → LeOn F G k0 k → wpList P ops Q rest a k.w
  | [], k, S, a, _, h, hs, hle => hQ S k a h hs hle
  | o :: rest, k, S, a, hd, h, hs, hle => by
    have hdo := hd o (by simp)
    have ih := @runOps_sound E hE ρ r ops F G k0 nt Q kont hQ rest
    have run : ∀ {S : St}, Sim F k S a nt → Region.wanted o (yielded ops a.tmps) = true → runOp E o S (fun S' => runOps E ops.toList rest S' kont) = some r → wpList P ops Q (o :: rest) a k.w := by
      intro S hs hw h
      unfold wpList
      rw [if_pos hw]
      exact .inl (runOp_sound hE hs hdo h fun S' k' a' hk hs' hle' => ih (fun o ho => hd o (by simp [ho])) hk hs' (hle.step hle'))
    have skip : ∀ {S : St}, Sim F k S a nt → Region.wanted o (yielded ops a.tmps) = false → runOps E ops.toList rest (app o.dst unk S) kont = some r → wpList P ops Q (o :: rest) a k.w := by
      intro S hs hw h
      unfold wpList
      rw [if_neg (by rw [hw]; simp)]
      exact ih (fun o ho => hd o (by simp [ho])) h (sim_skip hs hdo) hle
    unfold runOps at h
    cases hg : o.guard with
    | none =>
      rw [hg] at h
      exact run hs (by unfold Region.wanted; rw [hg]) h
    | some gw =>
      obtain ⟨j, want⟩ := gw
      rw [hg] at h
      dsimp only at h
      cases hsl : guardSlot ops.toList j with
      | none => rw [hsl] at h; cases h
      | some s =>
        rw [hsl] at h
        dsimp only at h
        cases want with
        | true =>
          simp only [cond_true] at h
          rcases onBool3_sound hs h with ⟨b, hv, _, hb, hs'⟩ | ⟨hv, _, hb⟩
          · have hw := wanted_of hg hsl hv
            cases b with
            | true => exact run hs' (by rw [hw]; rfl) (by simpa using hb)
            | false => exact skip hs' (by rw [hw]; rfl) (by simpa using hb)
          · exact skip hs (wanted_undef hg hsl hv) hb
        | false =>
          simp only [cond_false] at h
          rcases onBool3_sound hs h with ⟨b, hv, _, hb, hs'⟩ | ⟨hv, _, hb⟩
          · have hw := wanted_of hg hsl hv
            cases b with
            | true => exact skip hs' (by rw [hw]; rfl) (by simpa using hb)
            | false => exact run hs' (by rw [hw]; rfl) (by simpa using hb)
          · exact skip hs (wanted_undef hg hsl hv) hb

end mem
end Go.MC

/- Regions whose order is drawn (general). -/
set_option linter.unusedVariables false
set_option linter.unusedSimpArgs false
namespace Go.MC
open Go.RowKit

/-- What one operation of a region did in text order. -/
structure Rec where
  o : Oper
  go : Bool
  U : Upd
  R : List Nat

def Rec.W (r : Rec) : List Nat := keysW r.o.dst r.U
/-- The state behind some of the operations. -/
def apL : List Rec → (Nat → Bool) → St → St
  | [], _, S => S
  | r :: rs, L, S => apL rs (fun x => L (x + 1)) (bif L 0 then app r.o.dst r.U S else S)

theorem Agree.trans {S T V : St} {key : Nat} (h : Agree S T key) (g : Agree T V key) : Agree S V key := ⟨fun i hi => (h.1 i hi).trans (g.1 i hi), fun i hi => (h.2 i hi).trans (g.2 i hi)⟩
theorem Agree.symm {S T : St} {key : Nat} (h : Agree S T key) : Agree T S key := ⟨fun i hi => (h.1 i hi).symm, fun i hi => (h.2 i hi).symm⟩

theorem lkF_put (dst : Option Nat) (v : AV) (fr : List (Nat × AV)) (i : Nat) : lkF (putF dst v fr) i = if dst = some i then v else lkF fr i := by
  cases dst with
  | none => simp [putF]
  | some d =>
    simp only [putF, lkF_cons, Option.some.injEq]
    by_cases h : i = d
    · subst h; simp
    · simp [h, Ne.symm h]

theorem mem_W_even {dst : Option Nat} {U : Upd} {i : Nat} : 2 * i ∈ keysW dst U ↔ dst = some i := by
  simp only [keysW, List.mem_append, List.mem_map]
  constructor
  · rintro (h | ⟨p, _, h⟩)
    · cases dst with
      | none => simp at h
      | some d => simp at h; have : i = d := by omega
                  rw [this]
    · omega
  · rintro rfl; simp
theorem mem_W_odd {dst : Option Nat} {U : Upd} {i : Nat} : 2 * i + 1 ∈ keysW dst U ↔ i ∈ U.obs.map (·.1) := by
  simp only [keysW, List.mem_append, List.mem_map]
  constructor
  · rintro (h | ⟨p, hp, h⟩)
    · cases dst with
      | none => simp at h
      | some d => simp at h; omega
    · exact ⟨p, hp, by omega⟩
  · rintro ⟨p, hp, h⟩
    exact .inr ⟨p, hp, by omega⟩

theorem app_agree {S T : St} {key : Nat} (dst : Option Nat) (U : Upd) (h : Agree S T key) : Agree (app dst U S) (app dst U T) key := by
  refine ⟨fun i hi => ?_, fun i hi => ?_⟩
  · show lkF (putF _ _ _) i = lkF (putF _ _ _) i
    rw [lkF_put, lkF_put, h.1 i hi]
  · show lkH (_ ++ _) i = lkH (_ ++ _) i
    rw [lkH_append, lkH_append, h.2 i hi]
theorem app_other {S : St} {key : Nat} {dst : Option Nat} {U : Upd} (h : key ∉ keysW dst U) : Agree (app dst U S) S key := by
  refine ⟨fun i hi => ?_, fun i hi => ?_⟩
  · show lkF (putF _ _ _) i = _
    subst hi
    rw [lkF_put, if_neg (fun hd => h (mem_W_even.2 hd))]
  · show lkH (_ ++ _) i = _
    subst hi
    rw [lkH_append]
    cases ho : lkH U.obs i with
    | none => rfl
    | some o => exact absurd (mem_W_odd.2 (List.mem_map.2 ⟨_, lkH_some ho, rfl⟩)) h
theorem app_self {S T : St} {key : Nat} {dst : Option Nat} {U : Upd} (h : key ∈ keysW dst U) : Agree (app dst U S) (app dst U T) key := by
  refine ⟨fun i hi => ?_, fun i hi => ?_⟩
  · show lkF (putF _ _ _) i = lkF (putF _ _ _) i
    subst hi
    rw [lkF_put, lkF_put, if_pos (mem_W_even.1 h), if_pos (mem_W_even.1 h)]
  · show lkH (_ ++ _) i = lkH (_ ++ _) i
    subst hi
    obtain ⟨o, ho⟩ := lkH_mem (mem_W_odd.1 h)
    rw [lkH_append, lkH_append, ho]
    rfl

theorem apL_agree {key : Nat} : ∀ {recs : List Rec} {L L' : Nat → Bool} {S T : St}, (∀ (j : Nat) rec, recs[j]? = some rec → L j ≠ L' j → key ∉ rec.W) → Agree S T key → Agree (apL recs L S) (apL recs L' T) key
  | [], _, _, _, _, _, h => h
  | r :: rs, L, L', S, T, hd, h => by
    show Agree (apL rs (fun x => L (x + 1)) (bif L 0 then app r.o.dst r.U S else S)) (apL rs (fun x => L' (x + 1)) (bif L' 0 then app r.o.dst r.U T else T)) key
    refine apL_agree (fun j rec hj hne => hd (j + 1) rec (by simpa using hj) hne) ?_
    have h0 := hd 0 r rfl
    cases hl : L 0 <;> cases hl' : L' 0
    · exact h
    · exact h.trans (app_other (h0 (by simp [hl, hl']))).symm
    · exact (app_other (h0 (by simp [hl, hl']))).trans h
    · exact app_agree _ _ h

theorem apL_none : ∀ {recs : List Rec} {S : St}, apL recs (fun _ => false) S = S
  | [], _ => rfl
  | _ :: rs, _ => apL_none (recs := rs)

theorem apL_own {key : Nat} {T : St} {rec : Rec} : ∀ {recs : List Rec} {L : Nat → Bool} {S : St} {j : Nat}, recs[j]? = some rec → L j = true → key ∈ rec.W → (∀ (j' : Nat) rec', recs[j']? = some rec' → j < j' → L j' = true → key ∉ rec'.W) → Agree (apL recs L S) (app rec.o.dst rec.U T) key
  | [], _, _, _, h, _, _, _ => by simp at h
  | r :: rs, L, S, 0, h, hl, hk, ho => by
    simp only [List.getElem?_cons_zero, Option.some.injEq] at h
    subst h
    have h1 : Agree (apL rs (fun x => L (x + 1)) (bif L 0 then app r.o.dst r.U S else S)) (apL rs (fun _ => false) (app r.o.dst r.U S)) key := by
      refine apL_agree (fun j rec hj hne => ho (j + 1) rec (by simpa using hj) (by omega) (by simpa using hne)) ?_
      rw [hl]
      exact Agree.refl _ _
    rw [apL_none] at h1
    exact h1.trans (app_self hk)
  | r :: rs, L, S, j + 1, h, hl, hk, ho =>
    apL_own (recs := rs) (L := fun x => L (x + 1)) (j := j) (by simpa using h) hl hk (fun j' rec' hj' hlt hl' => ho (j' + 1) rec' (by simpa using hj') (by omega) hl')

def Eqv (S T : St) : Prop := ∀ key, Agree S T key
theorem Eqv.lkF {S T : St} (h : Eqv S T) (i : Nat) : MC.lkF S.fr i = MC.lkF T.fr i := (h (2 * i)).1 i rfl
theorem Eqv.lkH {S T : St} (h : Eqv S T) : MC.lkH S.H = MC.lkH T.H := funext fun i => (h (2 * i + 1)).2 i rfl
theorem Sim.eqv {F : Fx} {k : K} {S T : St} {a : Act} {nt : Nat} (hs : Sim F k S a nt) (h : Eqv S T) : Sim F k T a nt :=
  ⟨hs.hk, hs.hS.trans h.lkH, fun t => by rw [← h.lkF t]; exact hs.hf t, hs.sz, hs.df⟩

section
variable (E : Env) (all : List Oper)

/-- What is known of an operation at a state. -/
def RecOK (r : Rec) (S : St) : Prop :=
  (match r.o.guard with
    | none => r.go = true
    | some (j, want) => ∃ s, guardSlot all j = some s ∧ (lkF S.fr s = bV (if r.go then want else !want) ∨ (r.go = false ∧ lkF S.fr s = .w (.one .nd))) ∧ 2 * s ∈ r.R) ∧
  (if r.go = true then ∃ Rs, Tells (step E.TT E.Φ r.o) S r.U Rs ∧ ∀ key ∈ Rs, key ∈ r.R else r.U = unk)

theorem RecOK.move {r : Rec} {S T : St} (h : RecOK E all r S) (ha : ∀ key ∈ r.R, Agree S T key) : RecOK E all r T := by
  obtain ⟨h1, h2⟩ := h
  refine ⟨?_, ?_⟩
  · split at h1
    · exact h1
    · obtain ⟨s, h3, h4, h5⟩ := h1
      exact ⟨s, h3, by rw [← (ha _ h5).1 s rfl]; exact h4, h5⟩
  · split at h2
    · rename_i hg
      rw [if_pos hg]
      obtain ⟨Rs, h3, h4⟩ := h2
      exact ⟨Rs, fun V hV => h3 V fun key hk => (ha key (h4 key hk)).trans (hV key hk), h4⟩
    · rename_i hg
      rw [if_neg hg]
      exact h2

theorem setS_eqv {S : St} {i : Nat} {b : Bool} (h : lkF S.fr i = bV b) : Eqv (setS S i (bV b)) S := by
  intro key
  refine ⟨fun t _ => ?_, fun _ _ => rfl⟩
  show lkF ((i, bV b) :: S.fr) t = _
  rw [lkF_cons]
  split
  · rename_i ht; subst ht; exact h.symm
  · rfl

theorem runDraw_recs {ρ : Type} {r : ρ} {kont : St → Option ρ} {ms : List Nat} : ∀ {rest : List Oper} {i : Nat} {acc : List (Nat × List Nat × List Nat)} {S : St}, runDraw E all ms i rest acc S kont = some r →
    ∃ recs Sn, recs.map Rec.o = rest ∧ kont Sn = some r ∧ Eqv (apL recs (fun _ => true) S) Sn ∧
      (∀ (j : Nat) rec, recs[j]? = some rec → RecOK E all rec (apL recs (fun x => decide (x < j)) S)) ∧
      (∀ (j : Nat) rec, recs[j]? = some rec → (∀ p ∈ acc, okPair (ms.getD (i + j) 0) rec.R rec.W p = true) ∧ ∀ (j' : Nat) rec', j' < j → recs[j']? = some rec' → okPair (ms.getD (i + j) 0) rec.R rec.W (i + j', rec'.R, rec'.W) = true)
  | [], i, acc, S, h => ⟨[], S, rfl, h, fun _ => Agree.refl _ _, fun j rec hj => by simp at hj, fun j rec hj => by simp at hj⟩
  | o :: rest, i, acc, S, h => by
    have key : ∀ {S' : St} (rec : Rec), Eqv S S' → rec.o = o → RecOK E all rec S → acc.all (okPair (ms.getD i 0) rec.R rec.W) = true →
        runDraw E all ms (i + 1) rest ((i, rec.R, rec.W) :: acc) (app rec.o.dst rec.U S') kont = some r → ∃ recs Sn, recs.map Rec.o = (o :: rest) ∧ kont Sn = some r ∧ Eqv (apL recs (fun _ => true) S) Sn ∧
      (∀ (j : Nat) rec, recs[j]? = some rec → RecOK E all rec (apL recs (fun x => decide (x < j)) S)) ∧
      (∀ (j : Nat) rec, recs[j]? = some rec → (∀ p ∈ acc, okPair (ms.getD (i + j) 0) rec.R rec.W p = true) ∧ ∀ (j' : Nat) rec', j' < j → recs[j']? = some rec' → okPair (ms.getD (i + j) 0) rec.R rec.W (i + j', rec'.R, rec'.W) = true) := by
      intro S' rec he ho hrec hacc h
      obtain ⟨recs, Sn, h1, h2, h3, h4, h5⟩ := runDraw_recs h
      have heq : Eqv (app rec.o.dst rec.U S) (app rec.o.dst rec.U S') := fun key => app_agree _ _ (he key)
      refine ⟨rec :: recs, Sn, by simp [h1, ho], h2, fun key => ?_, fun j rec' hj => ?_, fun j rec' hj => ?_⟩
      · exact (apL_agree (fun _ _ _ hne => absurd rfl hne) (heq key)).trans (h3 key)
      · cases j with
        | zero =>
          simp only [List.getElem?_cons_zero, Option.some.injEq] at hj
          subst hj
          have : apL (rec :: recs) (fun x => decide (x < 0)) S = S := by
            have e : (fun x => decide (x < 0)) = fun _ : Nat => false := by funext x; simp
            rw [e, apL_none]
          rw [this]
          exact hrec
        | succ j =>
          have h6 := h4 j rec' (by simpa using hj)
          have e : (fun x => decide (x + 1 < j + 1)) = fun x => decide (x < j) := by funext x; simp
          show RecOK E all rec' (apL recs (fun x => decide (x + 1 < j + 1)) _)
          rw [e]
          exact h6.move E all fun key _ => apL_agree (fun _ _ _ hne => absurd rfl hne) (heq key).symm
      · cases j with
        | zero =>
          simp only [List.getElem?_cons_zero, Option.some.injEq] at hj
          subst hj
          exact ⟨fun p hp => List.all_eq_true.1 hacc p hp, fun j' _ hlt _ => by omega⟩
        | succ j =>
          obtain ⟨h6, h7⟩ := h5 j rec' (by simpa using hj)
          have e : i + 1 + j = i + (j + 1) := by omega
          rw [e] at h6 h7
          refine ⟨fun p hp => h6 p (by simp [hp]), fun j' rec2 hlt hj' => ?_⟩
          cases j' with
          | zero =>
            simp only [List.getElem?_cons_zero, Option.some.injEq] at hj'
            subst hj'
            exact h6 _ (by simp)
          | succ j' =>
            have := h7 j' rec2 (by omega) (by simpa using hj')
            rwa [show i + 1 + j' = i + (j' + 1) by omega] at this
    have go : ∀ {S' : St} {L : List Nat}, Eqv S S' → (match o.guard with
        | none => True
        | some (j, want) => ∃ s, guardSlot all j = some s ∧ lkF S.fr s = bV want ∧ 2 * s ∈ L) → (step E.TT E.Φ o ρ S' L fun U R =>
      bif acc.all (okPair (ms.getD i 0) R (keysW o.dst U)) then runDraw E all ms (i + 1) rest ((i, R, keysW o.dst U) :: acc) (app o.dst U S') kont else none) = some r → ∃ recs Sn, recs.map Rec.o = (o :: rest) ∧ kont Sn = some r ∧ Eqv (apL recs (fun _ => true) S) Sn ∧
      (∀ (j : Nat) rec, recs[j]? = some rec → RecOK E all rec (apL recs (fun x => decide (x < j)) S)) ∧
      (∀ (j : Nat) rec, recs[j]? = some rec → (∀ p ∈ acc, okPair (ms.getD (i + j) 0) rec.R rec.W p = true) ∧ ∀ (j' : Nat) rec', j' < j → recs[j']? = some rec' → okPair (ms.getD (i + j) 0) rec.R rec.W (i + j', rec'.R, rec'.W) = true) := by
      intro S' L he hg h
      obtain ⟨U, Rs, ht, hr⟩ := (good_step E.TT E.Φ o).tells h
      cases hacc : acc.all (okPair (ms.getD i 0) (Rs ++ L) (keysW o.dst U)) with
      | false => rw [hacc] at hr; cases hr
      | true =>
        rw [hacc] at hr
        refine key ⟨o, true, U, Rs ++ L⟩ he rfl ⟨?_, ?_⟩ hacc hr
        · dsimp only
          cases hgu : o.guard with
          | none => rfl
          | some gw =>
            rw [hgu] at hg
            obtain ⟨s, h1, h2, h3⟩ := hg
            exact ⟨s, h1, .inl (by simpa using h2), List.mem_append.2 (.inr h3)⟩
        · rw [if_pos rfl]
          exact ⟨Rs, fun V hV => ht V fun key hk => ((he key).symm).trans (hV key hk), fun key hk => List.mem_append.2 (.inl hk)⟩
    have skip : ∀ {S' : St} {j s : Nat} {want : Bool}, Eqv S S' → o.guard = some (j, want) → guardSlot all j = some s → (lkF S.fr s = bV (!want) ∨ lkF S.fr s = .w (.one .nd)) →
        (bif acc.all (okPair (ms.getD i 0) [2 * s] (keysW o.dst unk)) then runDraw E all ms (i + 1) rest ((i, [2 * s], keysW o.dst unk) :: acc) (app o.dst unk S') kont else none) = some r → ∃ recs Sn, recs.map Rec.o = (o :: rest) ∧ kont Sn = some r ∧ Eqv (apL recs (fun _ => true) S) Sn ∧
      (∀ (j : Nat) rec, recs[j]? = some rec → RecOK E all rec (apL recs (fun x => decide (x < j)) S)) ∧
      (∀ (j : Nat) rec, recs[j]? = some rec → (∀ p ∈ acc, okPair (ms.getD (i + j) 0) rec.R rec.W p = true) ∧ ∀ (j' : Nat) rec', j' < j → recs[j']? = some rec' → okPair (ms.getD (i + j) 0) rec.R rec.W (i + j', rec'.R, rec'.W) = true) := by
      intro S' j s want he hg hsl hv h
      cases hacc : acc.all (okPair (ms.getD i 0) [2 * s] (keysW o.dst unk)) with
      | false => rw [hacc] at h; cases h
      | true =>
        rw [hacc] at h
        refine key ⟨o, false, unk, [2 * s]⟩ he rfl ⟨?_, ?_⟩ hacc h
        · dsimp only
          rw [hg]
          exact ⟨s, hsl, hv.elim (fun h => .inl (by simpa using h)) (fun h => .inr ⟨rfl, h⟩), by simp⟩
        · rw [if_neg (by simp)]
    unfold runDraw at h
    cases hg : o.guard with
    | none =>
      rw [hg] at h
      exact go (fun _ => Agree.refl _ _) (by rw [hg]; trivial) h
    | some gw =>
      obtain ⟨j, want⟩ := gw
      rw [hg] at h
      dsimp only at h
      cases hsl : guardSlot all j with
      | none => rw [hsl] at h; cases h
      | some s =>
        rw [hsl] at h
        dsimp only at h
        cases want with
        | true =>
          simp only [cond_true, onBool3] at h
          split at h
          · rename_i b heq
            cases b with
            | true => exact go (fun key => (setS_eqv heq key).symm) (by rw [hg]; exact ⟨s, hsl, heq, by simp⟩) h
            | false => exact skip (fun key => (setS_eqv heq key).symm) hg hsl (.inl heq) h
          · rename_i heq
            exact skip (fun _ => Agree.refl _ _) hg hsl (.inr heq) h
          · cases h
        | false =>
          simp only [cond_false, onBool3] at h
          split at h
          · rename_i b heq
            cases b with
            | true => exact skip (fun key => (setS_eqv heq key).symm) hg hsl (.inl heq) h
            | false => exact go (fun key => (setS_eqv heq key).symm) (by rw [hg]; exact ⟨s, hsl, heq, by simp⟩) h
          · rename_i heq
            exact skip (fun _ => Agree.refl _ _) hg hsl (.inr heq) h
          · cases h

end
end Go.MC


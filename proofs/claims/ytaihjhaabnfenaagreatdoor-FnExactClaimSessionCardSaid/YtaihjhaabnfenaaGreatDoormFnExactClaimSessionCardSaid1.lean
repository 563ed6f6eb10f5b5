/- Part 1 of the texts of the claim FnExactClaimSessionCardSaid: an interpreter of the translated code over data, proved sound; the contracts of the functions; the same in plain words. -/
import Derived.Test.YtaihjhaabnfenaaGreatDoormFnExactClaimSessionCardSaid0
import Derived.Great.BuildSlice
import Derived.Laws.Closers25b
import Derived.Tactics
import Derived.Orders
set_option linter.unusedVariables false
set_option linter.unusedSimpArgs false
namespace Go.MC
open Go.RowKit
section mem
variable {P : Program}
theorem tZ (z : Array Value) (n : Nat) : (madeCells z ((n + 1) * z.size)).toList = z.toList ++ (madeCells z (n * z.size)).toList := by
 have h : (n + 1) * z.size = z.size + n * z.size := by rw [Nat.add_mul, Nat.one_mul, Nat.add_comm]
 rw [h]
 simp only [madeCells, Array.toList_map, Array.toList_range, List.range_add, List.map_append, List.map_map]
 congr 1
 ·refine List.ext_getElem? fun i => ?_
  by_cases hi : i < z.size
  ·simp [hi, Nat.mod_eq_of_lt hi]
  ·simp [hi]
 ·refine List.map_congr_left fun i _ => ?_
  simp
theorem JE {w : World} {ok : Nat → Prop} {t : Ty} {x : t.den} {z : Array Value} (h : Rd w ok t x z.toList) : ∀ n, bu w ok t (List.replicate n x) (madeCells z (n * z.size)).toList
 | 0 => by simp [madeCells, bu]
 | n + 1 => by
  rw [tZ, List.replicate_succ]
  exact ⟨_, _, rfl, h, JE h n⟩
theorem QG {w : World} {ok : Nat → Prop} {base : Nat} {t : Ty} {x : t.den} {ns : List Nat} {z : Array Value} (h : dH w ok base t x ns z.toList [] []) : ∀ n, OwnRows w ok base t ns (List.replicate n x) (madeCells z (n * z.size)).toList []
 | 0 => by
  rw [show (madeCells z (0 * z.size)).toList = [] by simp [madeCells]]
  exact ⟨rfl, rfl⟩
 | n + 1 => by
  rw [tZ, List.replicate_succ]
  exact ⟨_, _, [], [], rfl, h, QG h n, rfl⟩
theorem xk {k : K} {S : St} (hS : k.h = lkH S.H) {dst : Nat} {o : Option Ob} {R R' : List Nat} {u : Unit} (ho : bF (rdO dst) S o R) (hg : bF (aW o.isNone) S u R') : k.h dst = none := by
 obtain ⟨rfl, _⟩ := bZ ho
 have := (aB hg).1
 rw [hS]
 cases hh : lkH S.H dst with
 | none => rfl
 | some o => rw [hh] at this; cases this
theorem VJ {F : Fx} {k : K} (hk : aI F k) {S : St} (hS : k.h = lkH S.H) {a : Act} (hf : FrR F k S.fr a) {t e : Nat} (ht : P.underlying t = some (.slice e)) {te : TD} (hte : gI P e te) {dst : Nat} {l c : Operand} {U : Upd} {R : List Nat}
 (h : bF (Gh dst e te l c) S U R) : Does P F k (Instr.makeSlice t (a.eval l) (a.eval c)) U := by
 unfold Gh at h
 obtain ⟨cl, _, _, hx, h, _⟩ := ae (dI l) (fun _ => Good.all _) h
 obtain ⟨cc, _, _, hy, h, _⟩ := ae (dI c) (fun _ => Good.all _) h
 obtain ⟨o, _, _, ho, h, _⟩ := ae (Good.rdO dst) (fun _ => Good.all _) h
 obtain ⟨_, _, _, hg, h, _⟩ := ae (Good.guard _) (fun _ => Good.all _) h
 have hd := xk hS ho hg
 have hx := dm hf hx
 have hy := dm hf hy
 obtain ⟨n, m, rfl, rfl⟩ : ∃ n m, cl = .v (.int .i64) n ∧ cc = .v (.int .i64) m := by
  split at h
  ·exact ⟨_, _, rfl, rfl⟩
  ·exact (ag h).elim
 ·obtain ⟨_, _, _, h1, h, _⟩ := ae (Good.guard _) (fun _ => Good.all _) h
  obtain ⟨_, _, _, h2, h, _⟩ := ae (Good.guard _) (fun _ => Good.all _) h
  obtain ⟨_, _, _, h3, h, _⟩ := ae (Good.guard _) (fun _ => Good.all _) h
  have h1 := (aB h1).1
  have h2 := (aB h2).1
  have h3 := (aB h3).1
  obtain ⟨rfl, _⟩ := af h
  simp only [Bool.and_eq_true, decide_eq_true_eq] at h1 h2 h3
  subst h1
  obtain ⟨h3, h4, h5⟩ := h3
  have h4 := mP h4
  have hnl : n.toNat ≤ lim := Nat.le_trans (Nat.le_mul_of_pos_right _ h4) h3
  obtain ⟨hx, _⟩ := hx
  obtain ⟨hy, _⟩ := hy
  simp only [List.cons.injEq, and_true] at hx hy
  obtain ⟨ti, z, hi, hs1, hs2, hz, hzc, _, hdat⟩ := hte.info
  have hr := run_make (P := P) k.w t e ti z ht hi hz .i64 .i64 n n h2 (Int.le_refl _) (by
   rw [hs2]
   have : ((n.toNat * te.bytes : Nat) : Int) ≤ lim := by exact_mod_cast h3
   rw [Int.natCast_mul, Int.toNat_of_nonneg h2, Int.mul_comm] at this
   have hl : (lim : Int) = 140737488355328 := rfl
   omega) (by have hl : lim = 140737488355328 := rfl; omega)
  have hsz : (madeCells z.cells (n.toNat * ti.size)) = madeCells z.cells (n.toNat * z.cells.size) := by rw [hs1, hzc]
  have hrows := JE (hdat h5 k.w (k.ok F)) n.toNat
  have htz := hte.tysz h5 k.w
  have hfull : (madeCells z.cells (n.toNat * z.cells.size)).toList.take ((List.replicate n.toNat te.ty.dflt).length * te.ty.sz) = (madeCells z.cells (n.toNat * z.cells.size)).toList := by
   rw [List.length_replicate, htz, ← hzc, List.take_of_length_le (by rw [Array.length_toList, size_madeCells]; exact Nat.le_refl _)]
  obtain ⟨k', hw, hh, hk', hle, hrel⟩ := Qx hk hd (e := e) (r := te.ty) (xs := List.replicate n.toNat te.ty.dflt) (d := te.dp) (cur := madeCells z.cells (n.toNat * z.cells.size)) (cap := n.toNat)
   (by simp) (Nat.le_trans hnl EQ) (by rw [size_madeCells, hzc, htz]) (by simpa using hnl) (by rw [hfull]; exact hrows.length)
   (by
    rw [hfull]
    unfold TD.dp
    cases hns : te.ns with
    | nil => exact .inl ⟨rfl, hrows⟩
    | cons m ms =>
     obtain ⟨ti2, z2, hi2, hz2, hown⟩ := hte.own (by rw [hns]; simp)
     rw [hi] at hi2
     cases hi2
     rw [hz] at hz2
     cases hz2
     refine .inr ⟨m :: ms, rfl, ?_⟩
     have := QG (hown k.w (k.ok F) (F.bs dst)) n.toNat
     rwa [hns] at this)
  refine ⟨_, k', ?_, hh, hk', hle, hrel⟩
  rw [hx, hy, hr, hw, hsz]
  simp
theorem vw {F : Fx} {k : K} (hk : aI F k) {S : St} (hS : k.h = lkH S.H) {fz : Bool} {t : Ty} : ∀ {vs : List V1} {xs : List t.den} {obs : List (Nat × Ob)} {R : List Nat}
 (h : bF (oP fz t vs) S (xs, obs) R) {vals : List Value} (hv : fQ F k vs vals) (hn : (vs.all fun v => v.cells.all C.known) = true),
 ∃ l, Taken k l ∧ bu k.w (k.okT F l) t xs (vals.flatMap fun v => v.cells.toList) ∧ mY k obs ∧ (fz = true → ∀ id ∈ l, id ∈ obs.map (·.1)) ∧ (∀ v ∈ vals, v.cells.size = t.sz) ∧ xs.length = vals.length
 | [], xs, obs, R, h, vals, hv, hn => by
  obtain ⟨h3, _⟩ := af h
  obtain ⟨rfl, rfl⟩ := Prod.mk.inj h3
  simp only [fQ] at hv
  subst hv
  exact ⟨[], fun _ h => by simp at h, rfl, fun _ h => by simp at h, fun _ _ h => by simp at h, by simp, rfl⟩
 | v :: vs, xs, obs, R, h, vals, hv, hn => by
  unfold oP at h
  obtain ⟨p, _, _, h1, h, _⟩ := ae (eF _ _ _) (fun _ => Good.all _) h
  obtain ⟨u, us, rfl, hu, hus⟩ := hv
  simp only [List.all_cons, Bool.and_eq_true] at hn
  obtain ⟨cs, hcs, hrel⟩ := kY hu (by simpa using hn.1)
  obtain ⟨l1, u1, v1, hsplit, hr1, ht1, hd1, hf1, hz1⟩ := gq hk hS (x := p.1) (rest := p.2.1) (obs := p.2.2) h1 hrel
  split at h
  ·rename_i hp
   rw [hp] at hr1
   simp only [bK] at hr1
   subst hr1
   rw [List.append_nil] at hsplit
   subst hsplit
   obtain ⟨q, _, _, h2, h, _⟩ := ae (yx _ _ _) (fun _ => Good.all _) h
   obtain ⟨h3, _⟩ := af h
   obtain ⟨rfl, rfl⟩ := Prod.mk.inj h3
   obtain ⟨l2, ht2, hd2, hf2, hz2, hsz, hlen⟩ := vw hk hS (xs := q.1) (obs := q.2) h2 hus (by simpa using hn.2)
   refine ⟨l1 ++ l2, fun id hi => ?_, ?_, fun z hz => ?_, fun hfz id hi => ?_, ?_, by simp [hlen]⟩
   ·rcases List.mem_append.1 hi with hi | hi
    ·exact ht1 id hi
    ·exact ht2 id hi
   ·rw [List.flatMap_cons, hcs]
    exact ⟨cs, _, rfl, hd1.mono (fun b hb => dN (fun i hi => List.mem_append.2 (.inl hi)) hb) (fun _ _ _ => rfl), hd2.mono (fun b hb => dN (fun i hi => List.mem_append.2 (.inr hi)) hb) (fun _ _ _ => rfl)⟩
   ·rcases List.mem_append.1 hz with hz | hz
    ·exact hf2 z hz
    ·exact hf1 z hz
   ·rw [List.map_append]
    rcases List.mem_append.1 hi with hi | hi
    ·exact List.mem_append.2 (.inr (hz1 hfz id hi))
    ·exact List.mem_append.2 (.inl (hz2 hfz id hi))
   ·intro v hv
    rcases List.mem_cons.1 hv with rfl | hv
    ·rw [hcs, List.size_toArray]; exact hd1.length
    ·exact hsz v hv
  ·exact (ag h).elim
theorem yI {F : Fx} {k : K} (hk : aI F k) {S : St} (hS : k.h = lkH S.H) {t : Ty} {ns : List Nat} : ∀ {vs : List V1} {q : List t.den × List Nat} {R : List Nat}
 (h : bF (Po t ns vs) S (some q) R) {vals : List Value} (hv : fQ F k vs vals) (hn : (vs.all fun v => v.cells.all C.known) = true),
 OwnRows k.w (k.ok F) 0 t ns q.1 (vals.flatMap fun v => v.cells.toList) (blk k q.2) ∧ (∀ i ∈ q.2, ∃ e r xs, k.h i = some (.arr e r xs)) ∧ (∀ v ∈ vals, v.cells.size = t.sz) ∧ q.1.length = vals.length
 | [], q, R, h, vals, hv, hn => by
  obtain ⟨h3, _⟩ := af h
  cases h3
  simp only [fQ] at hv
  subst hv
  exact ⟨⟨rfl, rfl⟩, fun _ h => by simp at h, by simp, rfl⟩
 | v :: vs, q, R, h, vals, hv, hn => by
  unfold Po at h
  obtain ⟨po, _, _, h1, h, _⟩ := ae (uN _ _ _) (fun _ => Good.all _) h
  obtain ⟨u, us, rfl, hu, hus⟩ := hv
  simp only [List.all_cons, Bool.and_eq_true] at hn
  obtain ⟨cs, hcs, hrel⟩ := kY hu (by simpa using hn.1)
  cases po with
  | none => obtain ⟨h3, _⟩ := af h; cases h3
  | some p =>
   obtain ⟨u1, v1, hsplit, a1, a2, a3⟩ := qL hk hS h1 hrel
   obtain ⟨p1, p2, p3, p4⟩ := p
   dsimp only at h a1 a2 a3
   cases p2 with
   | cons _ _ => cases p3 <;> (obtain ⟨h3, _⟩ := af h; cases h3)
   | nil =>
    cases p3 with
    | cons _ _ => obtain ⟨h3, _⟩ := af h; cases h3
    | nil =>
     simp only [bK] at a1
     subst a1
     rw [List.append_nil] at hsplit
     subst hsplit
     obtain ⟨qo, _, _, h2, h, _⟩ := ae (Good.all _) (fun _ => Good.all _) h
     cases qo with
     | none => obtain ⟨h3, _⟩ := af h; cases h3
     | some q2 =>
      obtain ⟨h3, _⟩ := af h
      cases h3
      obtain ⟨b1, b2, b3, b4⟩ := yI hk hS h2 hus (by simpa using hn.2)
      refine ⟨?_, fun i hi => ?_, fun v hv => ?_, by simp [b4]⟩
      ·rw [List.flatMap_cons, hcs]
       exact ⟨cs, _, _, _, rfl, a3, b1, by simp [blk]⟩
      ·rcases List.mem_append.1 hi with hi | hi
       ·exact (a2 i hi).imp fun e he => he.imp fun r hr => hr.imp fun xs hx => hx.1
       ·exact b2 i hi
      ·rcases List.mem_cons.1 hv with rfl | hv
       ·rw [hcs, List.size_toArray]; exact a3.length
       ·exact b3 v hv
theorem Hw : ∀ {ps : List (Nat × Operand)} {i : Nat} (h : inOrder i ps = true) (f : Operand → Value), (ps.map fun p => (p.1, f p.2)) = ((ps.map fun p => f p.2).zipIdx i).map fun x => (x.2, x.1)
 | [], _, _, _ => rfl
 | p :: ps, i, h, f => by
  simp only [inOrder, Bool.and_eq_true] at h
  have := Nat.eq_of_beq_eq_true h.1
  simp only [List.map_cons, List.zipIdx_cons, Hw h.2 f, this]
theorem sS {w : World} {a : Act} {t e : Nat} (ht : P.underlying t = some (.slice e)) {te : TD} (hte : gI P e te) {len : Nat} {parts : Array (Nat × Operand)} (hn : parts.toList.length = len) (hord : inOrder 0 parts.toList = true) (hsm : len * te.sz ≤ 16777216) (htz : te.ty.sz = te.sz)
 (hsz : ∀ v ∈ parts.toList.map fun p => a.eval p.2, v.cells.size = te.ty.sz) : ∃ cur : Array Value, cur.toList = ((parts.toList.map fun p => a.eval p.2).flatMap fun v => v.cells.toList) ∧
  (Instr.buildSlice t len (parts.map fun (i, x) => (i, a.eval x))).run P w = .ok (.slice (some ⟨w.heap.size, 0, none⟩) len len) (w.alloc (.cells cur e)) := by
 obtain ⟨ti, z, hi, hs1, hs2, hz, hzc, _, _⟩ := hte.info
 have hpos := hte.pos
 refine ⟨_, rfl, ?_⟩
 by_cases h0 : len = 0
 ·subst h0
  have hp : parts = #[] := by
   apply Array.eq_empty_of_size_eq_zero
   simpa using hn
  subst hp
  simp [Instr.buildSlice, run_underlying ht, sizeOf, typeInfo, hi, Instr.fill, newRow]
  exact congrArg (fun c => w.alloc (Obj.cells c e)) (Array.eq_empty_of_size_eq_zero (by simp))
 ·refine run_buildSlice w t e len _ _ ti z ht hi hz (by rw [hs1]; omega) (by rw [hs1]; have := Nat.mul_pos (Nat.pos_of_ne_zero h0) hpos; omega) ?_
  rw [hs1]
  have hm : (parts.map fun (i, x) => (i, a.eval x)).toList = ((parts.toList.map fun p => a.eval p.2).zipIdx 0).map fun x => (x.2, x.1) := by
   rw [Array.toList_map, ← Hw hord]
  rw [hm]
  refine Great.fill_whole hpos _ _ (fun v hv => ?_) ?_
  ·rw [← htz]; exact hsz v hv
  ·simpa using congrArg (· * te.sz) hn
theorem BR {F : Fx} {k : K} (hk : aI F k) {S : St} (hS : k.h = lkH S.H) {a : Act} (hf : FrR F k S.fr a) {t e : Nat} (ht : P.underlying t = some (.slice e)) {te : TD} (hte : gI P e te) {dst len : Nat} {parts : Array (Nat × Operand)} {U : Upd} {R : List Nat}
 (h : bF (lS dst e te len parts.toList) S U R) : Does P F k (Instr.buildSlice t len (parts.map fun (i, x) => (i, a.eval x))) U := by
 unfold lS at h
 obtain ⟨_, _, _, hg1, h, _⟩ := ae (Good.guard _) (fun _ => Good.all _) h
 obtain ⟨vs, _, _, hvs, h, _⟩ := ae (BQ _) (fun _ => Good.all _) h
 obtain ⟨_, _, _, hg2, h, _⟩ := ae (Good.guard _) (fun _ => Good.all _) h
 obtain ⟨o, _, _, ho, h, _⟩ := ae (Good.rdO dst) (fun _ => Good.all _) h
 obtain ⟨_, _, _, hg, h, _⟩ := ae (Good.guard _) (fun _ => Good.all _) h
 have hd := xk hS ho hg
 have hvs := wF hf hvs
 have hg1 := (aB hg1).1
 have hg2 := (aB hg2).1
 simp only [Bool.and_eq_true] at hg1
 obtain ⟨hn, hord, hsm, hdat⟩ := hg1
 have hn := Nat.eq_of_beq_eq_true hn
 have hsm := Nat.le_of_ble_eq_true hsm
 have htz := hte.tysz hdat k.w
 have hpos := hte.pos
 have hlim : len ≤ lim := by
  have : len ≤ len * te.sz := Nat.le_mul_of_pos_right _ hpos
  have hl : lim = 140737488355328 := rfl
  omega
 have flat : ∀ {R : List Nat}, bF (M.bind (oP true te.ty vs) fun q => M.pure ⟨.w (.one (.arr dst)), (dst, .arr e te.ty q.1) :: q.2⟩) S U R → Does P F k (Instr.buildSlice t len (parts.map fun (i, x) => (i, a.eval x))) U := by
  intro R h
  obtain ⟨q, _, _, hq, h, _⟩ := ae (yx _ _ _) (fun _ => Good.all _) h
  obtain ⟨rfl, _⟩ := af h
  obtain ⟨l, hT, hrows, hF, hZ, hsz, hlen⟩ := vw hk hS (xs := q.1) (obs := q.2) hq hvs hg2
  obtain ⟨hk1, hle1, hok⟩ := freeze hk hF
  have hrows1 : bu (k.put q.2).w ((k.put q.2).ok F) te.ty q.1 ((parts.toList.map fun p => a.eval p.2).flatMap fun v => v.cells.toList) := by
   rw [List.map_map] at hrows
   exact hrows.mono (fun b hb => hok b (dN (hZ rfl) hb)) (fun _ _ _ => rfl)
  have hd1 : (k.put q.2).h dst = none := by
   show (lkH q.2 dst).or (k.h dst) = none
   rw [hd]
   cases hh : lkH q.2 dst with
   | none => rfl
   | some o =>
    obtain ⟨e', r, xs, dd, h1, _⟩ := hF _ (fH hh)
    rw [show k.h dst = _ from h1] at hd
    cases hd
  rw [List.map_map] at hsz hlen
  have hxl : q.1.length = len := by rw [hlen]; simpa using hn
  obtain ⟨cur, hcur, hrun⟩ := sS (P := P) (w := k.w) (a := a) ht hte hn hord hsm htz hsz
  obtain ⟨k', hw, hh, hk', hle, hrel⟩ := amv hk1 hd1 (e := e) (r := te.ty) (xs := q.1) (cur := cur) (cap := len)
   (by omega) (Nat.le_trans hlim EQ) (by rw [← Array.length_toList, hcur, hrows1.length, hxl])
   (by rw [List.take_of_length_le (by rw [hcur, hrows1.length]; exact Nat.le_refl _), hcur]; exact hrows1) (by omega)
  refine ⟨_, k', by rw [hrun, hw]; rfl, ?_, hk', hle1.trans hle, ?_⟩
  ·rw [hh, FB]; rfl
  ·rw [hxl] at hrel
   exact hrel
 split at h
 ·exact flat h
 ·obtain ⟨qo, _, _, hq, h, _⟩ := ae (Good.all _) (fun _ => Good.all _) h
  cases qo with
  | none => exact flat h
  | some q =>
   obtain ⟨_, _, _, hnd, h, _⟩ := ae (Good.guard _) (fun _ => Good.all _) h
   obtain ⟨rfl, _⟩ := af h
   have hnd := FD (aB hnd).1
   obtain ⟨hrows, hids, hsz, hlen⟩ := yI hk hS hq hvs hg2
   rw [List.map_map] at hsz hlen hrows
   have hxl : q.1.length = len := by rw [hlen]; simpa using hn
   obtain ⟨cur, hcur, hrun⟩ := sS (P := P) (w := k.w) (a := a) ht hte hn hord hsm htz hsz
   have hcl : cur.toList.length = len * te.ty.sz := by rw [hcur, ← hxl]; exact hrows.length
   obtain ⟨k', hw, hh, hk', hle, hrel⟩ := kL hk hd (e := e) (r := te.ty) (d := .yes te.ns) (zs := q.1) (ws := cur.toList) (v' := .slice (some ⟨k.w.heap.size, 0, none⟩) len len) (row := none) (w' := k.w.alloc (.cells cur e)) (ids := q.2)
    (fun i hi => (hids i hi).imp fun e he => he.imp fun r hr => hr.imp fun xs hx => ⟨_, hx⟩) (fun b hb => by cases hb)
    (.of ⟨by rw [hcl, hxl], .inr ⟨k.w.heap.size, len, cur, by rw [hxl], Nat.zero_le _, heap_alloc_new _ _, by omega, Nat.le_trans hlim EQ, by rw [← Array.length_toList, hcl], by rw [List.take_of_length_le (by rw [hcl, hxl]; exact Nat.le_refl _)]⟩⟩)
    (by omega) (World.grownBy_alloc _ _ _) (fun b hb => by have := nR hb; simp [Value.ownBlock] at this; exact .inr this.symm) (blk k q.2)
    (fun b hb => ⟨by simp, by
     obtain ⟨i, hi, h1⟩ := List.mem_flatMap.1 hb
     obtain ⟨e1, r1, xs1, h2⟩ := hids i hi
     exact ⟨i, hi, cu h2 (by simpa using h1)⟩⟩) (zH hk hids hnd) (.inr ⟨_, rfl, by rw [hcur]; exact hrows⟩)
   exact ⟨_, k', by rw [hrun, hw], hh, hk', hle, hrel⟩
end mem
end Go.MC
namespace Go.MC
open Go.RowKit
section mem
variable {P : Program}
theorem aaM {place : Nat → Option (Nat × Nat)} {i off sz : Nat} {v : Value} {vs cells : List Value} {rest : List (Nat × Value)} (hp : place i = some (off, sz)) (hv : v.cells = vs.toArray) (hs : vs.length = sz) (hle : off + sz ≤ cells.length) :
 Instr.fill place cells.toArray ((i, v) :: rest) = Instr.fill place (cells.take off ++ (vs ++ cells.drop (off + vs.length))).toArray rest := by
 have hg := Great.foldl_set off vs 0 cells.toArray
 simp only [Instr.fill, hp, hv, List.size_toArray, hs]
 rw [if_neg (by simp; omega)]
 congr 1
 apply Array.ext_getElem?
 intro k
 have e : (Array.foldl (fun cs (x : Value × Nat) => cs.setIfInBounds (off + x.2) x.1) cells.toArray vs.toArray.zipIdx) = (vs.zipIdx 0).foldl (fun cs (x : Value × Nat) => cs.setIfInBounds (off + x.2) x.1) cells.toArray := by
  rw [← Array.foldl_toList, Array.toList_zipIdx]
 refine (congrArg (·[k]?) e).trans ((hg.2 k).trans ?_)
 simp only [Nat.add_zero, List.getElem?_toArray, List.size_toArray]
 by_cases h1 : k < off
 ·rw [if_neg (by omega), List.getElem?_append_left (by simp; omega), List.getElem?_take_of_lt h1]
 ·by_cases h2 : k < off + vs.length
  ·rw [if_pos (by omega), List.getElem?_append_right (by simp; omega), List.getElem?_append_left (by simp; omega)]
   congr 1
   simp
   omega
  ·rw [if_neg (by omega), List.getElem?_append_right (by simp; omega), List.getElem?_append_right (by simp; omega), List.getElem?_drop]
   congr 1
   simp
   omega
theorem mapM_some {α β : Type} {g : α → Option β} : ∀ {l : List α}, (∀ a ∈ l, ∃ b, g a = some b) → ∃ bs : List β, l.mapM g = some bs ∧ ∀ (j : Nat) (a : α), l[j]? = some a → ∃ b, g a = some b ∧ bs[j]? = some b
 | [], _ => ⟨[], rfl, fun j a h => by simp at h⟩
 | x :: l, h => by
  obtain ⟨b, hb⟩ := h x (by simp)
  obtain ⟨bs, h1, h2⟩ := mapM_some (l := l) (fun a ha => h a (by simp [ha]))
  refine ⟨b :: bs, by simp [List.mapM_cons, hb, h1], fun j a hj => ?_⟩
  cases j with
  | zero => simp at hj; subst hj; exact ⟨b, hb, rfl⟩
  | succ j => simpa using h2 j a (by simpa using hj)
theorem Du {F : Fx} {k : K} {TT : Nat → Option TD} {flds : List (Nat × Nat)} {place : Nat → Option (Nat × Nat)} (hp : ∀ j f td, flds[j]? = some f → TT f.1 = some td → place j = some (f.2, td.sz)) :
 ∀ {idx : List Nat} {vs : List V1} {vals : List Value} {cs cs' : List C} {cells : List Value}, Iz flds TT cs (idx.zip vs) = some cs' → bK F k cs cells → fQ F k vs vals →
   ∃ cells', Instr.fill place cells.toArray (idx.zip vals) = some cells'.toArray ∧ bK F k cs' cells'
 | [], vs, vals, cs, cs', cells, h, hc, hv => by
  simp only [List.zip_nil_left, Iz, Option.some.injEq] at h
  subst h
  exact ⟨cells, rfl, hc⟩
 | j :: idx, [], vals, cs, cs', cells, h, hc, hv => by
  simp only [List.zip_nil_right, Iz, Option.some.injEq] at h
  subst h
  simp only [fQ] at hv
  subst hv
  exact ⟨cells, rfl, hc⟩
 | j :: idx, v :: vs, vals, cs, cs', cells, h, hc, hv => by
  obtain ⟨u, us, rfl, hu, hus⟩ := hv
  simp only [List.zip_cons_cons, Iz] at h
  cases hf : flds[j]? with
  | none => rw [hf] at h; cases h
  | some f =>
   rw [hf] at h
   dsimp only at h
   cases ht : TT f.1 with
   | none => rw [ht] at h; cases h
   | some td =>
    rw [ht] at h
    dsimp only at h
    cases hb : (Nat.beq v.cells.length td.sz && Nat.ble (f.2 + td.sz) cs.length && v.cells.all C.known) with
    | false => rw [hb] at h; cases h
    | true =>
     rw [hb] at h
     simp only [cond_true] at h
     simp only [Bool.and_eq_true] at hb
     obtain ⟨⟨h1, h2⟩, h3⟩ := hb
     have h1 := Nat.eq_of_beq_eq_true h1
     have h2 := Nat.le_of_ble_eq_true h2
     obtain ⟨ws, hw, hr⟩ := kY hu h3
     have hl := hr.length
     have hcl := hc.length
     obtain ⟨cells', h4, h5⟩ := Du hp h (Hr hc hr f.2) hus
     refine ⟨cells', ?_, h5⟩
     rw [List.zip_cons_cons, aaM (hp j f td hf ht) hw (by omega) (by omega)]
     exact h4
theorem Qv {F : Fx} {k : K} {S : St} {a : Act} (hf : FrR F k S.fr a) {TT : Nat → Option TD} (hTT : zo P TT) {t : Nat} {td : TD} (htd : gI P t td) (hagg : td.agg = true) {parts : Array (Nat × Operand)} {vs : List V1} {cs : List C} {R : List Nat}
 (h : bF (abY (parts.toList.map (·.2))) S vs R) (hfill : Iz td.flds TT td.zero ((parts.toList.map (·.1)).zip vs) = some cs) :
 ∃ v, (Instr.build t (parts.map fun (i, x) => (i, a.eval x))).run P k.w = .ok v k.w ∧ su F k (.agg cs) v := by
 obtain ⟨fs, hu, hfl⟩ := htd.agg hagg
 obtain ⟨ti, z, hi, hs1, hs2, hz, hzc, hzr, _⟩ := htd.info
 have hv := wF hf h
 obtain ⟨places, hpl, hget⟩ := mapM_some (g := fun f : Field => (P.info? f.type).map fun i => (f.offset, i.size)) (l := fs.toList) (fun f hm => by
  have : (f.type, f.offset) ∈ td.flds := by rw [← hfl]; exact List.mem_map.2 ⟨f, hm, rfl⟩
  obtain ⟨ti, h1, _⟩ := htd.fld _ this
  exact ⟨_, by rw [h1]; rfl⟩)
 obtain ⟨cells, hc, hr⟩ := Du (F := F) (k := k) (place := (places.toArray[·]?)) (fun j f td' hj ht => by
  rw [← hfl] at hj
  simp only [List.getElem?_map, Option.map_eq_some_iff] at hj
  obtain ⟨fd, h3, rfl⟩ := hj
  obtain ⟨b, h4, h5⟩ := hget j fd h3
  obtain ⟨ti', z', h6, h7, _⟩ := (hTT _ _ ht).info
  simp only [h6, Option.map_some, Option.some.injEq] at h4
  subst h4
  simpa [h7] using h5) hfill (hzr F k) hv
 refine ⟨_, run_build k.w t _ cells.toArray ?_, cells, rfl, hr⟩
 have hparts : (parts.map fun (i, x) => (i, a.eval x)).toList = (parts.toList.map (·.1)).zip ((parts.toList.map (·.2)).map a.eval) := by
  rw [Array.toList_map, List.map_map]
  generalize parts.toList = l
  induction l with
  | nil => rfl
  | cons p l ih => simp only [List.map_cons, List.zip_cons_cons, ih]; rfl
 unfold Program.built
 simp only [hi, hu, hz, hpl, hparts]
 have : z.cells = z.cells.toList.toArray := by simp
 rw [this]
 exact hc
theorem RG {t : Nat} {td : TD} (h : gI P t td) {w : World} {cells : List Value} {off : Nat} (hle : off + td.sz ≤ cells.length) :
 (td.agg = true → (part t cells.toArray off).run P w = .ok (.agg ((cells.drop off).take td.sz).toArray) w) ∧
 (td.agg = false → ∃ v, (cells.drop off).take td.sz = [v] ∧ (part t cells.toArray off).run P w = .ok v w) := by
 constructor
 ·intro ha
  have : cells.toArray.extract off (off + td.sz) = ((cells.drop off).take td.sz).toArray := by
   simp [List.extract_eq_take_drop]
  simp only [part, Sem.run_bind, rV h ha, Result.andThen_ok, if_true, iP h, Sem.run_pure, this]
 ·intro ha
  have h1 := (h.noagg ha).1
  have hlt : off < cells.length := by omega
  refine ⟨cells[off], ?_, ?_⟩
  ·rw [h1, List.drop_eq_getElem_cons hlt]; rfl
  ·simp only [part, Sem.run_bind, rJ h ha, Result.andThen_ok, Bool.false_eq_true, if_false]
   simp [hlt]
theorem f_ {F : Fx} {k : K} {S : St} {a : Act} (hf : FrR F k S.fr a) {x : Option Operand} {d n : Int} {R : List Nat} (h : bF (j_ x d) S n R) :
 (x = none ∧ n = d) ∨ ∃ kk, x.map a.eval = some (.int kk n) := by
 cases x with
 | none => obtain ⟨rfl, _⟩ := af h; exact .inl ⟨rfl, rfl⟩
 | some o =>
  unfold j_ at h
  obtain ⟨c, _, _, hc, h, _⟩ := ae (dI o) (fun _ => Good.all _) h
  have hr := dm hf hc
  cases c with
  | v t x =>
   cases t with
   | int kk =>
    obtain ⟨rfl, _⟩ := af h
    obtain ⟨hr, _⟩ := hr
    simp only [List.cons.injEq, and_true] at hr
    exact .inr ⟨kk, by simp [hr]⟩
   | _ => exact (ag h).elim
  | _ => exact (ag h).elim
theorem H_ {w : World} (isSlice : Bool) {len cap : Nat} {lo hi : Option Value} {l h : Int} (hl : (lo = none ∧ l = 0) ∨ ∃ kk, lo = some (.int kk l)) (hh : (hi = none ∧ h = len) ∨ ∃ kk, hi = some (.int kk h))
 (h0 : 0 ≤ l) (h1 : l ≤ h) (h2 : h ≤ (cap : Int)) : (Instr.sliceBounds isSlice len cap lo hi none).run P w = .ok (l.toNat, h.toNat, cap) w := by
 have bound : ∀ (kk : IntKind) (i : Int) (y : Nat) (c : BoundsCode), 0 ≤ i → i ≤ (y : Int) → (Instr.sliceBound (.int kk i) y c).run P w = .ok i.toNat w := by
  intro kk i y c h3 h4
  simp [Instr.sliceBound, asIntOf, h3, h4]
 rcases hl with ⟨rfl, rfl⟩ | ⟨kl, rfl⟩ <;> rcases hh with ⟨rfl, rfl⟩ | ⟨kh, rfl⟩
 ·simp [Instr.sliceBounds]
 ·simp [Instr.sliceBounds, bound kh h cap _ (by omega) h2]
 ·simp [Instr.sliceBounds, bound kl l len _ h0 h1]
 ·simp [Instr.sliceBounds, bound kh h cap _ (by omega) h2, bound kl l h.toNat _ h0 (by omega)]
theorem Q8 (s : List UInt8) (l h : Nat) : (⟨⟨s⟩⟩ : ByteArray).extract l h = ⟨⟨(s.take h).drop l⟩⟩ := by
 have : ((⟨⟨s⟩⟩ : ByteArray).extract l h).data = (⟨(s.take h).drop l⟩ : Array UInt8) := by
  rw [ByteArray.data_extract]
  simp [List.extract_eq_take_drop, List.drop_take]
 exact ByteArray.ext this
theorem Pz {F : Fx} {k : K} (hk : aI F k) {S : St} {a : Act} (hf : FrR F k S.fr a) {t e : Nat} {te : TD} (ht : P.underlying t = some (.slice e)) (hte : gI P e te)
 {x : Operand} {lo hi mx : Option Operand} {U : Upd} {R : List Nat} (h : bF (wL x lo hi mx) S U R) : Does P F k (Instr.sliceAt t (a.eval x) (lo.map a.eval) (hi.map a.eval) (mx.map a.eval)) U := by
 unfold wL at h
 obtain ⟨c, _, _, hc, h, _⟩ := ae (dI x) (fun _ => Good.all _) h
 obtain ⟨l, _, _, hl, h, _⟩ := ae (g_ _ _) (fun _ => Good.all _) h
 obtain ⟨hh, _, _, hhi, h, _⟩ := ae (g_ _ _) (fun _ => Good.all _) h
 obtain ⟨m, _, _, hm, h, _⟩ := ae (g_ _ _) (fun _ => Good.all _) h
 obtain ⟨_, _, _, hg, h, _⟩ := ae (Good.guard _) (fun _ => Good.all _) h
 have hg := (aB hg).1
 simp only [Bool.and_eq_true, decide_eq_true_eq] at hg
 obtain ⟨rfl, rfl, rfl⟩ := hg
 have hc := dm hf hc
 have hl := f_ hf hl
 have hhi : ∃ kk, hi.map a.eval = some (.int kk 0) := by
  rcases f_ hf hhi with ⟨_, h⟩ | h
  ·cases h
  ·exact h
 have hm : ∃ kk, mx.map a.eval = some (.int kk 0) := by
  rcases f_ hf hm with ⟨_, h⟩ | h
  ·cases h
  ·exact h
 have main : ∀ {ad : Option Addr} {n cap : Nat}, a.eval x = .slice ad n cap → U = ⟨.w (.one .mt), []⟩ → Does P F k (Instr.sliceAt t (a.eval x) (lo.map a.eval) (hi.map a.eval) (mx.map a.eval)) U := by
  rintro ad n cap hx rfl
  refine ⟨.slice ad 0 0, k, ?_, (Ee k).symm, hk, Le.refl F k, ⟨ad, rfl⟩⟩
  obtain ⟨k1, h1⟩ := hhi
  obtain ⟨k2, h2⟩ := hm
  rw [hx, h1, h2]
  have hb : (Instr.sliceBounds true n cap (lo.map a.eval) (some (.int k1 0)) (some (.int k2 0))).run P k.w = .ok (0, 0, 0) k.w := by
   rcases hl with ⟨rfl, _⟩ | ⟨k3, h3⟩
   ·simp [Instr.sliceBounds, Instr.sliceBound, asIntOf]
   ·rw [h3]
    simp [Instr.sliceBounds, Instr.sliceBound, asIntOf]
  simp only [Instr.sliceAt, Sem.run_bind, run_underlying ht, Result.andThen_ok, Instr.slice, hb, iP hte, Sem.run_pure]
  rfl
 cases c with
 | v ty y =>
  cases ty with
  | slice r =>
   obtain ⟨h5, _⟩ := af h
   obtain ⟨ad, cap, hv, _⟩ := Rd.slice_form (show Rd k.w (k.ok F) (.slice r) y [a.eval x] from hc)
   exact main (by simpa using hv) h5
  | _ => exact (ag h).elim
 | emp =>
  obtain ⟨h5, _⟩ := af h
  exact main (show a.eval x = .slice none 0 0 from hc) h5
 | mt =>
  obtain ⟨h5, _⟩ := af h
  obtain ⟨ad, hc⟩ := hc
  exact main hc h5
 | arr id =>
  obtain ⟨h5, _⟩ := af h
  obtain ⟨⟨ad, n, c, hc⟩, _⟩ := hc
  exact main hc h5
 | _ => exact (ag h).elim
theorem DJ {F : Fx} {k : K} (hk : aI F k) {S : St} (hS : k.h = lkH S.H) {a : Act} (hf : FrR F k S.fr a) {t : Nat} {sl : Bool} {te : TD} (ht : if sl = true then ∃ e, P.underlying t = some (.slice e) ∧ gI P e te else P.underlying t = some .string)
 {x : Operand} {lo hi mx : Option Operand} {U : Upd} {R : List Nat} (h : bF (uy sl te x lo hi mx) S U R) : Does P F k (Instr.sliceAt t (a.eval x) (lo.map a.eval) (hi.map a.eval) (mx.map a.eval)) U := by
 unfold uy at h
 obtain ⟨_, _, _, hm, h, _⟩ := ae (Good.guard _) (fun _ => Good.all _) h
 have hm := (aB hm).1
 have hm : mx = none := by cases mx <;> simp_all
 subst hm
 obtain ⟨c, _, _, hc, h, _⟩ := ae (dI x) (fun _ => Good.all _) h
 have hc := dm hf hc
 have opt : ∀ {o : Option Operand} {d n : Int}, ((o = none ∧ n = d) ∨ ∃ kk, o.map a.eval = some (.int kk n)) → ((o.map a.eval = none ∧ n = d) ∨ ∃ kk, o.map a.eval = some (.int kk n)) := by
  rintro o d n (⟨rfl, rfl⟩ | h)
  ·exact .inl ⟨rfl, rfl⟩
  ·exact .inr h
 have rest : ∀ {R : List Nat} {c : C}, (∀ s, c ≠ .v .str s) → dS F k c (a.eval x) → bF (M.bind (aW sl) fun _ => M.bind (sliceOf c) fun p => M.bind (aW (Nat.beq p.1.1.sz te.sz)) fun _ => M.bind (j_ lo 0) fun l => M.bind (j_ hi p.1.2.length) fun h => M.bind (aW (decide (0 ≤ l))) fun _ => M.bind (aW (decide (l ≤ h))) fun _ =>
  M.bind (aW (decide (h ≤ (p.1.2.length : Int)))) fun _ => M.pure ⟨.w (.one (.v (.slice p.1.1) ((p.1.2.take h.toNat).drop l.toNat))), p.2⟩) S U R → Does P F k (Instr.sliceAt t (a.eval x) (lo.map a.eval) (hi.map a.eval) none) U := by
  intro R c hns hc h
  obtain ⟨_, _, _, h0, h, _⟩ := ae (Good.guard _) (fun _ => Good.all _) h
  have h0 := (aB h0).1
  rw [if_pos h0] at ht
  obtain ⟨e, ht, hte⟩ := ht
  obtain ⟨p, _, _, hp, h, _⟩ := ae (OH c) (fun _ => Good.all _) h
  obtain ⟨_, _, _, h1, h, _⟩ := ae (Good.guard _) (fun _ => Good.all _) h
  obtain ⟨l, _, _, hl, h, _⟩ := ae (g_ _ _) (fun _ => Good.all _) h
  obtain ⟨hh, _, _, hhi, h, _⟩ := ae (g_ _ _) (fun _ => Good.all _) h
  obtain ⟨_, _, _, h2, h, _⟩ := ae (Good.guard _) (fun _ => Good.all _) h
  obtain ⟨_, _, _, h3, h, _⟩ := ae (Good.guard _) (fun _ => Good.all _) h
  obtain ⟨_, _, _, h4, h, _⟩ := ae (Good.guard _) (fun _ => Good.all _) h
  obtain ⟨rfl, _⟩ := af h
  have h1 := Nat.eq_of_beq_eq_true (aB h1).1
  have h2 := of_decide_eq_true (aB h2).1
  have h3 := of_decide_eq_true (aB h3).1
  have h4 := of_decide_eq_true (aB h4).1
  have hl := opt (f_ hf hl)
  have hhi := opt (f_ hf hhi)
  obtain ⟨⟨r, xs⟩, obs⟩ := p
  have fin : aI F (k.put obs) ∧ Le F k (k.put obs) ∧ Rd (k.put obs).w ((k.put obs).ok F) (.slice r) xs [a.eval x] := by
   cases c with
   | v ty y =>
    cases ty with
    | slice r' =>
     obtain ⟨h5, _⟩ := af hp
     have h5 := Prod.mk.inj h5
     obtain ⟨h5, rfl⟩ := h5
     cases h5
     obtain ⟨a1, a2, _⟩ := freeze (obs := []) hk (fun _ h => by simp at h)
     exact ⟨a1, a2, a2.rd hc⟩
    | _ => exact (ag hp).elim
   | arr id =>
    unfold sliceOf at hp
    obtain ⟨o, _, _, ho, hp, _⟩ := ae (Good.rdO _) (fun _ => Good.all _) hp
    obtain ⟨rfl, _⟩ := bZ ho
    rw [← hS] at hp
    obtain ⟨_, hc⟩ := hc
    cases hid : k.h id with
    | none => rw [hid] at hp; exact (ag hp).elim
    | some o =>
     rw [hid] at hp hc
     cases o with
     | arr e' r' xs' dd =>
      have main : ∀ {R : List Nat}, dd.rd = true → bF (M.bind (aW (!bP id)) fun _ => M.pure ((⟨r', xs'⟩ : Sigma fun r : Ty => List r.den), [(id, Ob.imm r' xs')])) S (⟨r, xs⟩, obs) R → aI F (k.put obs) ∧ Le F k (k.put obs) ∧ Rd (k.put obs).w ((k.put obs).ok F) (.slice r) xs [a.eval x] := by
       intro R hdr hp
       obtain ⟨_, _, _, hg, hp, _⟩ := ae (Good.guard _) (fun _ => Good.all _) hp
       have hg : bP id = false := by simpa using (aB hg).1
       obtain ⟨h5, _⟩ := af hp
       have h5 := Prod.mk.inj h5
       obtain ⟨h5, rfl⟩ := h5
       cases h5
       obtain ⟨a1, a2, a3⟩ := freeze (obs := [(id, .imm r xs)]) hk (fun p hp => by simp at hp; subst hp; exact ⟨e', r, xs, dd, hid, rfl, hdr, hg⟩)
       refine ⟨a1, a2, ?_⟩
       rw [show a.eval x = k.ν id from hc]
       exact (OU hk hid hdr).mono (fun b hb => a3 b hb) (fun _ _ _ => rfl)
      cases dd with
      | no => exact main rfl hp
      | yes ns hs =>
       cases hs with
       | none => exact main rfl hp
       | some y => exact (ag hp).elim
     | imm r' xs' =>
      obtain ⟨h5, _⟩ := af hp
      have h5 := Prod.mk.inj h5
      obtain ⟨h5, rfl⟩ := h5
      cases h5
      obtain ⟨a1, a2, _⟩ := freeze (obs := []) hk (fun _ h => by simp at h)
      refine ⟨a1, a2, ?_⟩
      rw [show a.eval x = k.ν id from hc]
      exact a2.rd (hk.obj id _ hid)
     | box cs => exact (ag hp).elim
     | gone => exact (ag hp).elim
   | _ => exact (ag hp).elim
  obtain ⟨a1, a2, hrd⟩ := fin
  obtain ⟨ad, cap, hv, hcap, hxl⟩ := hrd.slice_form
  simp only [List.cons.injEq, and_true] at hv
  have hb := H_ (P := P) (w := k.w) true (len := xs.length) (cap := cap) hl hhi h2 h3 (by have h4 : hh ≤ (xs.length : Int) := h4; omega)
  rw [hv] at hrd ⊢
  have hpc := hrd.piece l.toNat hh.toNat cap (by omega) (by have h4 : hh ≤ (xs.length : Int) := h4; omega) (by have h4 : hh ≤ (xs.length : Int) := h4; omega) (Nat.le_refl _)
  refine ⟨_, k.put obs, ?_, rfl, a1, a2, hpc⟩
  show _ = Result.ok _ k.w
  simp only [Instr.sliceAt, Sem.run_bind, run_underlying ht, Result.andThen_ok, Instr.slice, hb, iP hte, Sem.run_pure]
  rw [← h1]
 by_cases hs : ∃ s, c = C.v .str s
 ·obtain ⟨s, rfl⟩ := hs
  obtain ⟨_, _, _, h0, h, _⟩ := ae (Good.guard _) (fun _ => Good.all _) h
  have h0 := (aB h0).1
  rw [if_neg (by simpa using h0)] at ht
  obtain ⟨l, _, _, hl, h, _⟩ := ae (g_ _ _) (fun _ => Good.all _) h
  obtain ⟨hh, _, _, hhi, h, _⟩ := ae (g_ _ _) (fun _ => Good.all _) h
  obtain ⟨_, _, _, h2, h, _⟩ := ae (Good.guard _) (fun _ => Good.all _) h
  obtain ⟨_, _, _, h3, h, _⟩ := ae (Good.guard _) (fun _ => Good.all _) h
  obtain ⟨_, _, _, h4, h, _⟩ := ae (Good.guard _) (fun _ => Good.all _) h
  obtain ⟨rfl, _⟩ := af h
  have h2 := of_decide_eq_true (aB h2).1
  have h3 := of_decide_eq_true (aB h3).1
  have h4 := of_decide_eq_true (aB h4).1
  have hl := opt (f_ hf hl)
  have hhi := opt (f_ hf hhi)
  obtain ⟨hv, hsl⟩ := hc
  simp only [List.cons.injEq, and_true] at hv
  have hb := H_ (P := P) (w := k.w) false (len := s.length) (cap := s.length) hl hhi h2 h3 h4
  rw [hv]
  refine Does.pure hk (v := .string ⟨⟨(s.take hh.toNat).drop l.toNat⟩⟩) ?_ ⟨rfl, ?_⟩
  ·have hsz : (⟨⟨s⟩⟩ : ByteArray).size = s.length := rfl
   simp only [Instr.sliceAt, Sem.run_bind, run_underlying ht, Result.andThen_ok, Instr.slice, Option.map_none, Option.isSome_none, Bool.false_eq_true, if_false, hsz, hb, Sem.run_pure, Q8]
  ·exact Nat.le_trans (by simp; omega) hsl
 ·have hns : ∀ s, c ≠ C.v .str s := fun s h => hs ⟨s, h⟩
  split at h
  ·exact absurd rfl (hns _)
  ·exact rest hns hc h
end mem
end Go.MC
namespace Go.MC
open Go.RowKit
section mem
variable {P : Program}
theorem xE (k : IntKind) (n : Int) : k.has (k.wrap n) := wrap_within k n
theorem Qn (k : IntKind) : k.min ≤ 0 ∧ 0 ≤ k.max := by cases k <;> decide
theorem aka (k : IntKind) (x y : Int) (h : k.has x) : k.has (x.tmod y) := by
 obtain ⟨h0, h1⟩ := Qn k
 obtain ⟨h2, h3⟩ := h
 have hab : (x.tmod y).natAbs ≤ x.natAbs := by rw [Int.natAbs_tmod]; exact Nat.mod_le _ _
 rcases Int.le_total 0 x with hx | hx
 ·have a1 := Int.tmod_nonneg y hx
  exact ⟨by omega, by omega⟩
 ·have hx' : 0 ≤ -x := by omega
  have e : x.tmod y = -((-x).tmod y) := by rw [Int.neg_tmod]; omega
  have a1 := Int.tmod_nonneg y hx'
  exact ⟨by omega, by omega⟩
theorem jS {F : Fx} {K : K} {k : IntKind} {n : Int} {v : Value} (h : dS F K (.v (.int k) n) v) : v = .int k n ∧ k.has n := by
 obtain ⟨h1, h2⟩ := h
 simp only [List.cons.injEq, and_true] at h1
 exact ⟨h1, h2⟩
theorem oz {F : Fx} {K : K} {s : List UInt8} {v : Value} (h : dS F K (.v .str s) v) : v = .string ⟨⟨s⟩⟩ ∧ s.length ≤ lim := by
 obtain ⟨h1, h2⟩ := h
 simp only [List.cons.injEq, and_true] at h1
 exact ⟨h1, h2⟩
theorem fJ {F : Fx} {K : K} {b : Bool} {v : Value} (h : dS F K (.v .bool b) v) : v = .bool b := by
 simp only [dS, Rd, List.cons.injEq, and_true] at h
 exact h
theorem Tc {F : Fx} {k : K} (hk : aI F k) {S : St} {a : Act} (hf : FrR F k S.fr a) {t : Nat} (ht : P.underlying t = some .string) {x i : Operand} {U : Upd} {R : List Nat} (h : bF (A7 x i) S U R) :
 Does P F k (Instr.index t (a.eval x) (a.eval i)) U := by
 unfold A7 at h
 obtain ⟨c, _, _, hc, h, _⟩ := ae (dI x) (fun _ => Good.all _) h
 have hc := dm hf hc
 obtain ⟨s, rfl⟩ : ∃ s, c = .v .str s := by
  split at h
  ·exact ⟨_, rfl⟩
  ·exact (ag h).elim
 obtain ⟨ci, _, _, hi, h, _⟩ := ae (dI i) (fun _ => Good.all _) h
 have hi := dm hf hi
 obtain ⟨kk, n, rfl⟩ : ∃ kk n, ci = .v (.int kk) n := by
  split at h
  ·exact ⟨_, _, rfl⟩
  ·exact (ag h).elim
 obtain ⟨_, _, _, hr, h, _⟩ := ae (qC _ _) (fun _ => Good.all _) h
 obtain ⟨h0, h1⟩ := ng hr
 obtain ⟨rfl, _⟩ := af h
 obtain ⟨hc, _⟩ := oz hc
 obtain ⟨hi, _⟩ := jS hi
 rw [hc, hi]
 refine Does.pure hk (v := .int .u8 ((s.getD n.toNat 0).toNat : Int)) ?_ ⟨rfl, ?_⟩
 ·rw [run_index_string _ t ⟨⟨s⟩⟩ kk n ht]
  have hsz : (⟨⟨s⟩⟩ : ByteArray).size = s.length := rfl
  rw [dif_pos ⟨h0, by rw [hsz]; exact h1⟩]
  have hlt : n.toNat < s.length := by omega
  have : ((⟨⟨s⟩⟩ : ByteArray)[n.toNat]'(by rw [hsz]; exact hlt)) = s.getD n.toNat 0 := by
   rw [List.getD_eq_getElem?_getD, List.getElem?_eq_getElem hlt]
   rfl
  rw [this]
 ·have := (s.getD n.toNat 0).toNat_lt
  refine ⟨?_, ?_⟩
  ·show (0 : Int) ≤ _
   omega
  ·show _ ≤ (255 : Int)
   omega
theorem Yy (n : Nat) (h : n ≤ lim) : IntKind.i64.has (n : Int) := by
 have hl : lim = 140737488355328 := rfl
 refine ⟨?_, ?_⟩
 ·show (-9223372036854775808 : Int) ≤ _
  omega
 ·show _ ≤ (9223372036854775807 : Int)
  omega
theorem SV {F : Fx} {k : K} (hk : aI F k) {S : St} (hS : k.h = lkH S.H) {c : C} {n : Nat} {R : List Nat} (h : bF (lenOf c) S n R) {v : Value} (hv : dS F k c v) : ∃ ad cap, v = .slice ad n cap ∧ n ≤ lim := by
 have imm : ∀ {r : Ty} {xs : List r.den}, Rd k.w (k.ok F) (.slice r) xs [v] → ∃ ad cap, v = .slice ad xs.length cap ∧ xs.length ≤ lim := by
  intro r xs h
  obtain ⟨a, cap, h1, _, h2⟩ := h.slice_form
  exact ⟨a, cap, by simpa using h1, h2⟩
 cases c with
 | v ty x =>
  cases ty with
  | slice r =>
   obtain ⟨rfl, _⟩ := af h
   exact imm hv
  | _ => exact (ag h).elim
 | emp =>
  obtain ⟨rfl, _⟩ := af h
  exact ⟨none, 0, hv, Nat.zero_le _⟩
 | mt =>
  obtain ⟨rfl, _⟩ := af h
  obtain ⟨a, hv⟩ := hv
  exact ⟨a, 0, hv, Nat.zero_le _⟩
 | arr id =>
  unfold lenOf at h
  obtain ⟨o, R1, R2, h1, h2, _⟩ := ae (Good.rdO _) (fun o => Good.all _) h
  obtain ⟨rfl, _⟩ := bZ h1
  obtain ⟨_, hv⟩ := hv
  rw [← hS] at h2
  cases ho : k.h id with
  | none => rw [ho] at h2; exact (ag h2).elim
  | some o =>
   rw [ho] at h2 hv
   cases o with
   | arr e r xs d =>
    obtain ⟨rfl, _⟩ := af h2
    obtain ⟨vs, hc, hl⟩ := OW hk ho
    obtain ⟨a, c, h3⟩ := Nz hc
    obtain rfl : v = k.ν id := hv
    exact ⟨a, c, h3, hl⟩
   | imm r xs =>
    obtain ⟨rfl, _⟩ := af h2
    obtain rfl : v = k.ν id := hv
    exact imm (hk.obj id _ ho)
   | box cs => exact (ag h2).elim
   | gone => exact (ag h2).elim
 | _ => exact (ag h).elim
theorem aby {F : Fx} {k : K} (hk : aI F k) {S : St} (hS : k.h = lkH S.H) {a : Act} (hf : FrR F k S.fr a) {t : Nat} {sl : Bool} (ht : if sl = true then ∃ e, P.underlying t = some (.slice e) else P.underlying t = some .string) (ty : TypeId) {x : Operand} {U : Upd} {R : List Nat} (h : bF (zu sl x) S U R) :
 Does P F k (Builtin.len_ #[t] ty #[a.eval x]) U := by
 unfold zu at h
 obtain ⟨c, _, _, hc, h, _⟩ := ae (dI x) (fun _ => Good.all _) h
 have hc := dm hf hc
 have rest : ∀ {R : List Nat}, bF (M.bind (aW sl) fun _ => M.bind (lenOf c) fun n => M.pure ⟨.w (.one (.v (.int .i64) (n : Int))), []⟩) S U R → Does P F k (Builtin.len_ #[t] ty #[a.eval x]) U := by
  intro R h
  obtain ⟨_, _, _, h0, h, _⟩ := ae (Good.guard _) (fun _ => Good.all _) h
  have h0 := (aB h0).1
  rw [if_pos h0] at ht
  obtain ⟨e, ht⟩ := ht
  obtain ⟨n, _, _, hp, h, _⟩ := ae (Good.all (lenOf c)) (fun _ => Good.all _) h
  obtain ⟨ad, cap, hv, hl⟩ := SV hk hS hp hc
  obtain ⟨rfl, _⟩ := af h
  rw [hv]
  refine Does.pure hk (v := .int .i64 n) ?_ ⟨rfl, Yy _ hl⟩
  simp [Builtin.len_, run_underlying ht, goInt]
 by_cases hs : ∃ s, c = C.v .str s
 ·obtain ⟨s, rfl⟩ := hs
  obtain ⟨_, _, _, h0, h, _⟩ := ae (Good.guard _) (fun _ => Good.all _) h
  have h0 := (aB h0).1
  rw [if_neg (by simpa using h0)] at ht
  obtain ⟨rfl, _⟩ := af h
  obtain ⟨hc, hl⟩ := oz hc
  rw [hc]
  refine Does.pure hk (v := .int .i64 s.length) ?_ ⟨rfl, Yy _ hl⟩
  have hsz : (⟨⟨s⟩⟩ : ByteArray).size = s.length := rfl
  simp [Builtin.len_, run_underlying ht, goInt, hsz]
 ·have hns : ∀ s, c ≠ C.v .str s := fun s h => hs ⟨s, h⟩
  split at h
  ·exact absurd rfl (hns _)
  ·exact rest h
theorem afR {F : Fx} {k : K} (hk : aI F k) {S : St} {a : Act} (hf : FrR F k S.fr a) {op : UnOp} {x : Operand} {U : Upd} {R : List Nat} (h : bF (Ul op x) S U R) : Does P F k (Op.unary op (a.eval x)) U := by
 unfold Ul at h
 obtain ⟨c, _, _, hc, h, _⟩ := ae (dI x) (fun _ => Good.all _) h
 have hc := dm hf hc
 cases c with
 | v t y =>
  cases t with
  | bool =>
   have := fJ hc
   rw [this]
   cases op with
   | not => obtain ⟨rfl, _⟩ := af h; exact Does.pure hk (v := .bool !y) rfl rfl
   | _ => exact (ag h).elim
  | int kk =>
   obtain ⟨this, _⟩ := jS hc
   rw [this]
   cases op with
   | neg => obtain ⟨rfl, _⟩ := af h; exact Does.pure hk (v := .int kk (kk.wrap (0 - y))) rfl ⟨rfl, xE _ _⟩
   | _ => exact (ag h).elim
  | _ => exact (ag h).elim
 | _ => exact (ag h).elim
end mem
end Go.MC
namespace Go.MC
open Go.RowKit
section mem
variable {P : Program}
theorem UU (a b : List UInt8) : (⟨⟨a⟩⟩ : ByteArray) ++ ⟨⟨b⟩⟩ = ⟨⟨a ++ b⟩⟩ := by
 apply ByteArray.ext
 rw [ByteArray.data_append]
 simp
theorem rW {t : TypeId} {d : TypeDesc} (hd : P.underlying t = some d) (h1 : ∀ gs, d ≠ .struct gs) (h2 : ∀ n e, d ≠ .array n e) {xs : List Value} {off : Nat} {v : Value} (hx : xs[off]? = some v) (w : World) : (part t xs.toArray off).run P w = .ok v w := by
 have : (isAgg t).run P w = .ok false w := by
  simp only [isAgg, Sem.run_bind, run_underlying hd, Result.andThen_ok]
  cases d <;> first | rfl | exact absurd rfl (h1 _) | exact absurd rfl (h2 _ _)
 simp only [part, Sem.run_bind, this, Result.andThen_ok, Bool.false_eq_true, if_false]
 simp [hx]
theorem getElem_drop {xs us : List Value} {i : Nat} {v : Value} (h : xs.drop i = v :: us) : xs[i]? = some v ∧ xs.drop (i + 1) = us := by
 constructor
 ·have := congrArg (·[0]?) h
  simpa using this
 ·rw [← List.drop_drop, h]
  rfl
theorem Oz {ts : List Ty} {cs ds : List C} {b : Bool} (h : eP (.bool :: ts) cs ds = some b) : ∃ x y cs' ds' b', cs = .v .bool x :: cs' ∧ ds = .v .bool y :: ds' ∧ eP ts cs' ds' = some b' ∧ b = ((x == y) && b') := by
 unfold eP at h
 split at h
 ·rename_i h1; cases h1
 ·rename_i ts' x cs' y ds' h1
  injection h1 with _ h1
  subst h1
  simp only [Option.map_eq_some_iff] at h
  obtain ⟨b', h2, h3⟩ := h
  exact ⟨x, y, cs', ds', b', rfl, rfl, h2, h3.symm⟩
 ·rename_i h1; cases h1
 ·rename_i h1; cases h1
 ·cases h
theorem S9 {ts : List Ty} {cs ds : List C} {b : Bool} (h : eP (.str :: ts) cs ds = some b) : ∃ x y cs' ds' b', cs = .v .str x :: cs' ∧ ds = .v .str y :: ds' ∧ eP ts cs' ds' = some b' ∧ b = ((x == y) && b') := by
 unfold eP at h
 split at h
 ·rename_i h1; cases h1
 ·rename_i h1; cases h1
 ·rename_i h1; cases h1
 ·rename_i ts' x cs' y ds' h1
  injection h1 with _ h1
  subst h1
  simp only [Option.map_eq_some_iff] at h
  obtain ⟨b', h2, h3⟩ := h
  exact ⟨x, y, cs', ds', b', rfl, rfl, h2, h3.symm⟩
 ·cases h
theorem RP {k : IntKind} {ts : List Ty} {cs ds : List C} {b : Bool} (h : eP (.int k :: ts) cs ds = some b) : ∃ (x y : Int) (cs' ds' : List C) (b' : Bool), cs = .v (.int k) x :: cs' ∧ ds = .v (.int k) y :: ds' ∧ eP ts cs' ds' = some b' ∧ b = ((x == y) && b') := by
 unfold eP at h
 split at h
 ·rename_i h1; cases h1
 ·rename_i h1; cases h1
 ·rename_i k' ts' i x cs' j y ds' h1
  injection h1 with h0 h1
  injection h0 with h0
  subst h0 h1
  cases hkk : (decide (i = k) && decide (j = k)) with
  | false => rw [hkk] at h; cases h
  | true =>
   rw [hkk] at h
   simp only [Bool.and_eq_true, decide_eq_true_eq] at hkk
   obtain ⟨rfl, rfl⟩ := hkk
   simp only [cond_true, Option.map_eq_some_iff] at h
   obtain ⟨b', h2, h3⟩ := h
   exact ⟨x, y, cs', ds', b', rfl, rfl, h2, h3.symm⟩
 ·rename_i h1; cases h1
 ·cases h
theorem xw {F : Fx} {k : K} (w : World) (d : Nat) {xs ys : List Value} : ∀ (fs : List Field) (i : Nat) (ts : List Ty) (cs ds : List C) (b : Bool) (us vs : List Value),
 (∀ (j : Nat) (f : Field), fs[j]? = some f → f.name ≠ "_" ∧ f.offset = i + j ∧ ((ts[j]? = some .bool ∧ P.underlying f.type = some .bool) ∨ (ts[j]? = some .str ∧ P.underlying f.type = some .string) ∨ ∃ k, ts[j]? = some (.int k) ∧ P.underlying f.type = some (.int k))) →
 fs.length = ts.length → eP ts cs ds = some b → bK F k cs us → bK F k ds vs → xs.drop i = us → ys.drop i = vs → (Op.eqFields (d + 1) xs.toArray ys.toArray fs).run P w = .ok b w
 | [], i, ts, cs, ds, b, us, vs, _, hl, he, hc, hd, hx, hy => by
  have : ts = [] := List.eq_nil_of_length_eq_zero hl.symm
  subst this
  cases cs with
  | nil =>
   cases ds with
   | nil => simp only [eP, Option.some.injEq] at he; subst he; rfl
   | cons d ds => simp [eP] at he
  | cons c cs => simp [eP] at he
 | f :: fs, i, [], cs, ds, b, us, vs, _, hl, he, hc, hd, hx, hy => by simp at hl
 | f :: fs, i, t :: ts, cs, ds, b, us, vs, hf, hl, he, hc, hd, hx, hy => by
  obtain ⟨hn, hoff, hty⟩ := hf 0 f rfl
  simp only [Nat.add_zero, List.getElem?_cons_zero, Option.some.injEq] at hoff hty
  have step : ∀ {c e : C} {cs' ds' : List C} (b' : Bool) (r : Bool) (dd : TypeDesc), cs = c :: cs' → ds = e :: ds' → P.underlying f.type = some dd → (∀ gs, dd ≠ .struct gs) → (∀ n e, dd ≠ .array n e) →
   (∀ u v, dS F k c u → dS F k e v → (Op.equalIn (d + 1) f.type u v).run P w = .ok r w) → eP ts cs' ds' = some b' → b = (r && b') → (Op.eqFields (d + 1) xs.toArray ys.toArray (f :: fs)).run P w = .ok b w := by
   rintro c e cs' ds' b' r dd rfl rfl htd hns hna hr hb' rfl
   obtain ⟨u, us', rfl, hcu, hcs⟩ := hc
   obtain ⟨hxi, hxd⟩ := getElem_drop hx
   obtain ⟨v, vs', rfl, hdv, hds⟩ := hd
   obtain ⟨hyi, hyd⟩ := getElem_drop hy
   have ih := xw w d fs (i + 1) ts cs' ds' b' us' vs' (fun j f' hj => by
    have := hf (j + 1) f' (by simpa using hj)
    rw [show i + (j + 1) = i + 1 + j by omega] at this
    simpa using this) (by simpa using hl) hb' hcs hds hxd hyd
   simp only [Op.eqFields, hn, ne_eq, not_false_eq_true, if_true, Sem.run_bind, hoff, rW htd hns hna hxi, rW htd hns hna hyi, Result.andThen_ok, hr u v hcu hdv]
   cases r
   ·simp
   ·simpa using ih
  rcases hty with ⟨rfl, hty⟩ | ⟨rfl, hty⟩ | ⟨kk, rfl, hty⟩
  ·obtain ⟨x, y, cs', ds', b', h1, h2, h3, h4⟩ := Oz he
   refine step b' (x == y) .bool h1 h2 hty (fun _ h => by cases h) (fun _ _ h => by cases h) (fun u v hu hv => ?_) h3 h4
   rw [fJ (F := F) (K := k) hu, fJ (F := F) (K := k) hv]
   exact run_equalIn_bool w d f.type x y hty
  ·obtain ⟨x, y, cs', ds', b', h1, h2, h3, h4⟩ := S9 he
   refine step b' (x == y) .string h1 h2 hty (fun _ h => by cases h) (fun _ _ h => by cases h) (fun u v hu hv => ?_) h3 h4
   rw [(oz (F := F) (K := k) hu).1, (oz (F := F) (K := k) hv).1, run_equalIn_string w d f.type _ _ hty, ByteArray.toList_eq, ByteArray.toList_eq]
  ·obtain ⟨x, y, cs', ds', b', h1, h2, h3, h4⟩ := RP he
   refine step b' (x == y) (.int kk) h1 h2 hty (fun _ h => by cases h) (fun _ _ h => by cases h) (fun u v hu hv => ?_) h3 h4
   rw [(jS (F := F) (K := k) hu).1, (jS (F := F) (K := k) hv).1]
   exact run_equalIn_int w d f.type kk kk x y hty
theorem gu (op : BinOp) (t : TypeId) (x y : Operand) (j k : IntKind) (a b : Int) (w : World) : (eqGuard op t x y (.int j a) (.int k b)).run P w = .ok () w := by
 cases op <;> simp [eqGuard]
theorem rF (op : BinOp) (t : TypeId) (x y : Operand) (a b : ByteArray) (w : World) : (eqGuard op t x y (.string a) (.string b)).run P w = .ok () w := by
 cases op <;> simp [eqGuard]
theorem nX (op : BinOp) (t : TypeId) (x y : Operand) (a b : Bool) (w : World) : (eqGuard op t x y (.bool a) (.bool b)).run P w = .ok () w := by
 cases op <;> simp [eqGuard]
theorem aos (a b : List UInt8) : ((⟨⟨a⟩⟩ : ByteArray).toList == (⟨⟨b⟩⟩ : ByteArray).toList) = (a == b) := by rw [ByteArray.toList_eq, ByteArray.toList_eq]
theorem ae2 (k : IntKind) (x : Int) (n : Nat) (h0 : 0 ≤ x) (h : k.has x) : k.has (x.fdiv (2 ^ n)) := by
 have e : x.fdiv (2 ^ n) = x / 2 ^ n := Int.fdiv_eq_ediv_of_nonneg x (Int.le_of_lt (Int.pow_pos (by decide)))
 have h1 : 0 ≤ x / 2 ^ n := Int.ediv_nonneg h0 (Int.le_of_lt (Int.pow_pos (by decide)))
 have h2 : x / 2 ^ n ≤ x := Int.ediv_le_self _ h0
 have hm : k.min ≤ 0 := by cases k <;> decide
 rw [e]
 exact ⟨Int.le_trans hm h1, Int.le_trans h2 h.2⟩
theorem acP {F : Fx} {k : K} (hk : aI F k) {S : St} {a : Act} (hf : FrR F k S.fr a) {TT : Nat → Option TD} (hTT : zo P TT) {op : BinOp} {t : Nat} {x y : Operand} {U : Upd} {R : List Nat} (h : bF (OE TT op t x y) S U R) :
 Does P F k (do eqGuard op t x y (a.eval x) (a.eval y); binOp op t (a.eval x) (a.eval y)) U := by
 unfold OE at h
 obtain ⟨vx, _, _, hx, h, _⟩ := ae (nM x) (fun _ => Good.all _) h
 obtain ⟨vy, _, _, hy, h, _⟩ := ae (nM y) (fun _ => Good.all _) h
 have hx := kS hf hx
 have hy := kS hf hy
 have bare : ∀ {v : Value} {c : C} {g : Sem Unit} {s : Sem Value}, g.run P k.w = .ok () k.w → s.run P k.w = .ok v k.w → dS F k c v → Does P F k (do g; s) ⟨.w (.one c), []⟩ := by
  intro v c g s h1 h2 h3
  exact Does.pure hk (v := v) (by simp [Sem.run_bind, h1, h2]) h3
 cases vx with
 | one cx =>
  cases cx with
  | v tx nx =>
   cases vy with
   | one cy =>
    cases cy with
    | v ty ny =>
     cases tx with
     | int j =>
      cases ty with
      | int j' =>
       obtain ⟨_, _, _, hj, h, _⟩ := ae (Good.guard _) (fun _ => Good.all _) h
       have hj := of_decide_eq_true (aB hj).1
       subst hj
       obtain ⟨ex, hx1⟩ := jS (F := F) (K := k) hx
       obtain ⟨ey, hy1⟩ := jS (F := F) (K := k) hy
       rw [ex, ey]
       cases op with
       | quo =>
        obtain ⟨_, _, _, hz, h, _⟩ := ae (Good.guard _) (fun _ => Good.all _) h
        have hz := (aB hz).1
        obtain ⟨rfl, _⟩ := af h
        have hz : ny ≠ 0 := by simpa using hz
        exact bare (v := .int j (j.wrap (nx.tdiv ny))) (gu _ _ _ _ _ _ _ _ _) (by simp [binOp, Op.intDiv, hz]) ⟨rfl, xE _ _⟩
       | rem =>
        obtain ⟨_, _, _, hz, h, _⟩ := ae (Good.guard _) (fun _ => Good.all _) h
        have hz := (aB hz).1
        obtain ⟨rfl, _⟩ := af h
        have hz : ny ≠ 0 := by simpa using hz
        exact bare (v := .int j (nx.tmod ny)) (gu _ _ _ _ _ _ _ _ _) (by simp [binOp, Op.intDiv, hz]) ⟨rfl, aka _ _ _ hx1⟩
       | shr =>
        obtain ⟨_, _, _, hz, h, _⟩ := ae (Good.guard _) (fun _ => Good.all _) h
        have hz := (aB hz).1
        obtain ⟨rfl, _⟩ := af h
        simp only [Bool.and_eq_true, decide_eq_true_eq] at hz
        exact bare (v := .int j (nx.fdiv (2 ^ min ny.toNat j.bits))) (gu _ _ _ _ _ _ _ _ _) (by simp [binOp, Op.shift, Int.not_lt.2 hz.2]) ⟨rfl, ae2 _ _ _ hz.1 hx1⟩
       | _ =>
        obtain ⟨c, _, _, hc, h, _⟩ := ae (Good.aY _) (fun _ => Good.all _) h
        obtain ⟨rfl, _⟩ := af h
        obtain ⟨hc, _⟩ := aH hc
        simp only [apy, Option.some.injEq] at hc
        first
         | (cases hc; done)
         | (subst hc; exact bare (gu _ _ _ _ _ _ _ _ _) (by simp only [binOp, Op.intArith, Op.intCmp, Op.intBits, ne_eq, not_true_eq_false, if_false]; rfl) ⟨rfl, xE _ _⟩)
         | (subst hc; exact bare (gu _ _ _ _ _ _ _ _ _) (by simp only [binOp, Op.intArith, Op.intCmp, Op.intBits, ne_eq, not_true_eq_false, if_false]; rfl) rfl)
      | _ => exact (ag h).elim
     | str =>
      cases ty with
      | str =>
       obtain ⟨ex, hx1⟩ := oz (F := F) (K := k) hx
       obtain ⟨ey, hy1⟩ := oz (F := F) (K := k) hy
       rw [ex, ey]
       cases op with
       | add =>
        obtain ⟨_, _, _, hz, h, _⟩ := ae (Good.guard _) (fun _ => Good.all _) h
        have hz := of_decide_eq_true (aB hz).1
        obtain ⟨rfl, _⟩ := af h
        refine bare (v := .string ⟨⟨nx ++ ny⟩⟩) (rF _ _ _ _ _ _ _) ?_ ⟨rfl, by simpa using hz⟩
        have e1 : (⟨⟨nx⟩⟩ : ByteArray).size = nx.length := rfl
        have e2 : (⟨⟨ny⟩⟩ : ByteArray).size = ny.length := rfl
        have hl : lim = 140737488355328 := rfl
        have hm : IntKind.i64.max = 9223372036854775807 := rfl
        have hn : ¬ (((nx.length + ny.length : Nat) : Int) > IntKind.i64.max) := by rw [hm]; omega
        simp only [binOp, Op.stringOp, e1, e2, hn, if_false, UU]
        rfl
       | _ =>
        first
         | exact (ag h).elim
         | (obtain ⟨rfl, _⟩ := af h; exact bare (rF _ _ _ _ _ _ _) (by simp only [binOp, Op.stringOp, aos, ByteArray.toList_eq]; rfl) rfl)
      | _ => exact (ag h).elim
     | bool =>
      cases ty with
      | bool =>
       have ex := fJ (F := F) (K := k) hx
       have ey := fJ (F := F) (K := k) hy
       rw [ex, ey]
       obtain ⟨td, _, _, ht, h, _⟩ := ae (Good.aY _) (fun _ => Good.all _) h
       obtain ⟨ht, _⟩ := aH ht
       have htd := hTT t td ht
       cases hty : td.ty with
       | bool =>
        rw [hty] at h
        have hu := htd.bool hty
        cases op with
        | eql =>
         obtain ⟨rfl, _⟩ := af h
         exact bare (v := .bool (nx == ny)) (nX _ _ _ _ _ _ _) (by simp [binOp, Op.equal, Op.maxDepth, run_equalIn_bool k.w 9999 t nx ny hu]) rfl
        | neq =>
         obtain ⟨rfl, _⟩ := af h
         exact bare (v := .bool !(nx == ny)) (nX _ _ _ _ _ _ _) (by simp [binOp, Op.equal, Op.maxDepth, run_equalIn_bool k.w 9999 t nx ny hu]) rfl
        | _ => exact (ag h).elim
       | _ => rw [hty] at h; exact (ag h).elim
      | _ => exact (ag h).elim
     | _ => exact (ag h).elim
    | _ => cases tx <;> exact (ag h).elim
   | agg cs => cases tx <;> exact (ag h).elim
  | _ => exact (ag h).elim
 | agg as =>
  cases vy with
  | one cy => exact (ag h).elim
  | agg bs =>
   obtain ⟨td, _, _, ht, h, _⟩ := ae (Good.aY _) (fun _ => Good.all _) h
   obtain ⟨ht, _⟩ := aH ht
   have htd := hTT t td ht
   obtain ⟨_, _, _, hg, h, _⟩ := ae (Good.guard _) (fun _ => Good.all _) h
   have hg := (aB hg).1
   have hq : td.eqs ≠ [] := by intro hh; rw [hh] at hg; cases hg
   obtain ⟨b, _, _, hb, h, _⟩ := ae (Good.aY _) (fun _ => Good.all _) h
   obtain ⟨hb, _⟩ := aH hb
   obtain ⟨fs, hu, hsh, heg, hfs, hfd⟩ := htd.eqs hq
   obtain ⟨us, ex, hus⟩ := hx
   obtain ⟨vs, ey, hvs⟩ := hy
   rw [ex, ey]
   have hfo : P.fieldsOf t = fs := by simp [Program.fieldsOf, hu]
   have hrun : (Op.equalIn 10000 t (.agg us.toArray) (.agg vs.toArray)).run P k.w = .ok b k.w := by
    rw [run_equalIn_struct k.w 9999 t _ _ (by rw [hfo]; exact hu) hsh, hfo]
    exact xw k.w 9998 fs.toList 0 td.eqs as bs b us vs (fun j f hj => by
     have := hfd j f hj
     rwa [Nat.zero_add]) (by rw [Array.length_toList]; exact hfs) hb hus hvs rfl rfl
   cases op with
   | eql =>
    obtain ⟨rfl, _⟩ := af h
    exact bare (v := .bool b) (run_eqGuard_agg k.w _ t x y _ _ heg) (by rw [run_eql_struct, hrun]; rfl) rfl
   | neq =>
    obtain ⟨rfl, _⟩ := af h
    exact bare (v := .bool !b) (run_eqGuard_agg k.w _ t x y _ _ heg) (by rw [run_neq_struct, hrun]; rfl) rfl
   | _ => exact (ag h).elim
end mem
end Go.MC
namespace Go.MC
open Go.RowKit
section mem
variable {P : Program}
theorem Dt {w : World} {ok : Nat → Prop} {kk : IntKind} : ∀ {xs : List Int} {vs : List Value}, bu w ok (.int kk) xs vs → vs = xs.map (Value.int kk)
 | [], _, h => h
 | x :: xs, _, h => by
  obtain ⟨v1, v2, rfl, h1, h2⟩ := h
  obtain ⟨rfl, _⟩ := h1
  rw [Dt h2]
  rfl
theorem Vj {F : Fx} {k : K} (hk : aI F k) {S : St} (hS : k.h = lkH S.H) {a : Act} (hf : FrR F k S.fr a) {TT : Nat → Option TD} (hTT : zo P TT) {src dst : Nat} {x : Operand} {U : Upd} {R : List Nat} (h : bF (F9 TT src dst x) S U R) :
 Does P F k (convert src dst (a.eval x)) U := by
 unfold F9 at h
 obtain ⟨tds, _, _, h1, h, _⟩ := ae (Good.aY _) (fun _ => Good.all _) h
 obtain ⟨tdd, _, _, h2, h, _⟩ := ae (Good.aY _) (fun _ => Good.all _) h
 obtain ⟨c, _, _, hc, h, _⟩ := ae (dI x) (fun _ => Good.all _) h
 obtain ⟨h1, _⟩ := aH h1
 obtain ⟨h2, _⟩ := aH h2
 have hs := hTT _ _ h1
 have hd := hTT _ _ h2
 have hc := dm hf hc
 cases hts : tds.ty with
 | int j =>
  rw [hts] at h
  cases htd : tdd.ty with
  | int kk =>
   rw [htd] at h
   cases c with
   | v t n =>
    cases t with
    | int i =>
     obtain ⟨rfl, _⟩ := af h
     obtain ⟨e, _⟩ := jS (F := F) (K := k) hc
     rw [e]
     refine Does.pure hk (v := .int kk (kk.wrap n)) ?_ ⟨rfl, xE _ _⟩
     simp [convert, run_underlying (hs.int j hts), run_underlying (hd.int kk htd), Conv.intToInt]
    | _ => exact (ag h).elim
   | _ => exact (ag h).elim
  | _ => rw [htd] at h; exact (ag h).elim
 | slice r =>
  rw [hts] at h
  obtain ⟨hr, htd⟩ : r = .int .u8 ∧ tdd.ty = .str := by
   generalize h5 : tdd.ty = ty2 at h
   generalize h6 : Ty.slice r = ty1 at h
   split at h
   ·cases h6
   ·injection h6 with h6; exact ⟨h6, rfl⟩
   ·exact (ag h).elim
  subst hr
  rw [htd] at h
  obtain ⟨te, _, _, h3, h, _⟩ := ae (Good.aY _) (fun _ => Good.all _) h
  obtain ⟨p, _, _, hp, h, _⟩ := ae (Qd c) (fun _ => Good.all _) h
  obtain ⟨h3, _⟩ := aH h3
  have hte := hTT _ _ h3
  have hr := O4 hk hS hp hc
  have hsu := hs.sl _ hts
  have hdu := hd.str htd
  cases p with
  | none =>
   dsimp only at h
   cases hty : te.ty with
   | int kk =>
    rw [hty] at h
    cases kk with
    | u8 =>
     obtain ⟨rfl, _⟩ := af h
     rw [show a.eval x = .slice none 0 0 from hr]
     exact Does.pure hk (v := .string ByteArray.empty) (run_convert_bytes_nil k.w src tds.elem hsu (hte.int .u8 hty) 0 0 dst hdu) ⟨rfl, Nat.zero_le _⟩
    | _ => exact (ag h).elim
   | _ => rw [hty] at h; exact (ag h).elim
  | some p =>
   obtain ⟨r, xs⟩ := p
   cases r with
   | int kk =>
    cases kk with
    | u8 =>
     dsimp only at h
     cases hty : te.ty with
     | int kk =>
      rw [hty] at h
      cases kk with
      | u8 =>
       obtain ⟨rfl, _⟩ := af h
       obtain ⟨vs, ad, cap, hrows, hv, hat, _, hl⟩ := hr
       have hvs := Dt hrows
       subst hvs
       rw [hv]
       refine Does.pure hk (v := .string ⟨⟨xs.map byteOf⟩⟩) ?_ ⟨rfl, by simpa using hl⟩
       rw [run_convert_bytes_string k.w src dst tds.elem ad _ cap hsu (hte.int .u8 hty) hdu]
       by_cases hne : xs = []
       ·subst hne
        cases ad with
        | none => simp [Conv.bytesToString]; rfl
        | some ad =>
         rw [run_bytesToString k.w ad _ cap [] (by simpa using run_loadCells_list (P := P) k.w ad [] (fun i v hi => by simp at hi))]
         rfl
       ·obtain ⟨b, rfl, hcell⟩ := hat hne
        rw [run_bytesToString k.w b _ cap xs (by simpa using run_loadCells_list (P := P) k.w b _ hcell), foldl_push_bytes]
        have : (ByteArray.empty.data ++ (xs.map fun n => UInt8.ofNat n.toNat).toArray) = (⟨xs.map byteOf⟩ : Array UInt8) := by
         simp [ByteArray.empty, ByteArray.emptyWithCapacity]
         rfl
        rw [this]
      | _ => exact (ag h).elim
     | _ => rw [hty] at h; exact (ag h).elim
    | _ => exact (ag h).elim
   | _ => exact (ag h).elim
 | _ => rw [hts] at h; exact (ag h).elim
def mM (P : Program) (F : Fx) (k : K) (s : Sem Next) (U : Upd) : Prop :=
 (∃ v k', s.run P k.w = .ok (.value v) k'.w ∧ k'.h = (k.put U.obs).h ∧ aI F k' ∧ Le F k k' ∧ iq F k' U.val v) ∨
 (∃ k', s.run P k.w = .ok .skip k'.w ∧ k'.h = (k.put U.obs).h ∧ aI F k' ∧ Le F k k' ∧ iq F k' U.val undef) ∨
 (∃ f args, s.run P k.w = .ok (.enter f args) k.w ∧ Calls P f args k.w fun e w' => ∃ v k', e = .returned v ∧ w' = k'.w ∧ k'.h = (k.put U.obs).h ∧ aI F k' ∧ Le F k k' ∧ iq F k' U.val v)
theorem mM.wp {F : Fx} {k : K} {o : Oper} {a : Act} {U : Upd} (h : mM P F k (execOp a.eval o) U) {next : Act → World → Prop} {Q : Exit → Act → World → Prop}
 (hn : ∀ v k', k'.h = (k.put U.obs).h → aI F k' → Le F k k' → iq F k' U.val v → next (a.put o.dst v) k'.w) : o.wp P a k.w next Q := by
 unfold Oper.wp
 rcases h with ⟨v, k', h1, h2, h3, h4, h5⟩ | ⟨k', h1, h2, h3, h4, h5⟩ | ⟨f, args, h1, h2⟩
 ·rw [h1]; exact hn v k' h2 h3 h4 h5
 ·rw [h1]; exact hn undef k' h2 h3 h4 h5
 ·rw [h1, Oper.upon_enter]
  refine Calls.mono h2 fun e w' he => ?_
  obtain ⟨v, k', rfl, rfl, h4, h5, h6, h7⟩ := he
  exact hn v k' h4 h5 h6 h7
theorem fA {F : Fx} {k : K} {s : Sem Value} {U : Upd} (h : Does P F k s U) : mM P F k (do pure (Next.value (← s))) U := by
 obtain ⟨v, k', h1, h2⟩ := h
 exact .inl ⟨v, k', by simp [Sem.run_bind, h1], h2⟩
theorem nK {F : Fx} {k : K} (hk : aI F k) {s : Sem Next} {v : Value} {c : AV} (h : s.run P k.w = .ok (.value v) k.w) (hr : iq F k c v) : mM P F k s ⟨c, []⟩ :=
 .inl ⟨v, k, h, (Ee k).symm, hk, Le.refl F k, hr⟩
theorem al3 {F : Fx} {k : K} {s : Sem Unit} {U : Upd} (h : rM P F k s U) : mM P F k (do s; pure Next.skip) U := by
 obtain ⟨k', h1, h2, h3, h4, h5⟩ := h
 exact .inr (.inl ⟨k', by simp [Sem.run_bind, h1], h2, h3, h4, h5⟩)
end mem
end Go.MC
namespace Go.MC
open Go.RowKit
section mem
variable {P : Program}
def dw (P : Program) (Φ : Nat → Option ax) : Prop :=
 ∀ {F : Fx} {k : K} {S : St} {g : Nat} {s : ax} {dst : Nat} {avs : List AV} {args : List Value} {U : Upd} {R : List Nat},
   aI F k → k.h = lkH S.H → PU Φ g avs = some s → relAs F k avs args → bF (jV s dst avs) S U R → mM P F k (callFunc g args.toArray) U
 where
 relAs (F : Fx) (k : K) : List AV → List Value → Prop
  | [], vs => vs = []
  | c :: cs, vs => ∃ v vs', vs = v :: vs' ∧ iq F k c v ∧ relAs F k cs vs'
theorem jf {F : Fx} {k : K} : ∀ {cs ds : List AV} {us vs : List Value}, dw.relAs F k cs us → dw.relAs F k ds vs → dw.relAs F k (cs ++ ds) (us ++ vs)
 | [], _, _, _, h, g => by simp only [dw.relAs] at h; subst h; simpa using g
 | _ :: _, _, _, _, h, g => by
  obtain ⟨v, vs', rfl, h1, h2⟩ := h
  exact ⟨v, vs' ++ _, rfl, h1, jf h2 g⟩
theorem Hu {F : Fx} {k : K} {S : St} {a : Act} (hf : FrR F k S.fr a) : ∀ {xs : List Operand} {vs : List AV} {R : List Nat}, bF (aou xs) S vs R → dw.relAs F k vs (xs.map a.eval)
 | [], vs, R, h => by obtain ⟨rfl, _⟩ := af h; rfl
 | x :: xs, vs, R, h => by
  obtain ⟨v, R1, R2, h1, h2, _⟩ := ae (lK x) (fun _ => Good.all _) h
  obtain ⟨vs', R3, R4, h3, h4, _⟩ := ae (MX xs) (fun _ => Good.all _) h2
  obtain ⟨rfl, _⟩ := af h4
  exact ⟨_, _, rfl, jC hf h1, Hu hf h3⟩
theorem Dh {F : Fx} {k : K} {S : St} {a : Act} (hf : FrR F k S.fr a) : ∀ {xs : List Operand} {l : List Nat} {R : List Nat}, bF (P8 xs) S l R → (∀ id ∈ l, ∃ cs, k.h id = some (.box cs)) ∧ xs.map a.eval = l.map fun id => Value.pointer (some ⟨k.μ id, 0, none⟩)
 | [], l, R, h => by obtain ⟨rfl, _⟩ := af h; exact ⟨fun _ hi => by simp at hi, rfl⟩
 | x :: xs, l, R, h => by
  unfold P8 at h
  obtain ⟨c, _, _, hc, h, _⟩ := ae (dI x) (fun _ => Good.all _) h
  have hr := dm hf hc
  obtain ⟨id, rfl⟩ : ∃ id, c = .pb id 0 := by
   split at h
   ·exact ⟨_, rfl⟩
   ·exact (ag h).elim
  obtain ⟨l', _, _, h3, h, _⟩ := ae (Gw xs) (fun _ => Good.all _) h
  obtain ⟨rfl, _⟩ := af h
  obtain ⟨h4, h5⟩ := Dh hf h3
  obtain ⟨h6, h7⟩ := hr
  refine ⟨fun i hi => ?_, by simp [h7, h5]⟩
  rcases List.mem_cons.1 hi with rfl | hi
  ·exact h6
  ·exact h4 i hi
theorem yU {F : Fx} {k : K} : ∀ {caps : List Nat}, (∀ id ∈ caps, ∃ cs, k.h id = some (.box cs)) → dw.relAs F k (caps.map amD) (caps.map fun id => Value.pointer (some ⟨k.μ id, 0, none⟩))
 | [], _ => rfl
 | c :: cs, h => ⟨_, _, rfl, ⟨h c (by simp), rfl⟩, yU fun id hi => h id (by simp [hi])⟩
theorem xO {F : Fx} {k : K} {S : St} {a : Act} (hf : FrR F k S.fr a) {f : Operand} {args : List Operand} {g : Nat} {avs : List AV} {R : List Nat} (h : bF (nz f args) S (g, avs) R) :
 ∃ vals, dw.relAs F k avs vals ∧ ∀ (ts : Array TypeId) (type : TypeId), ∀ w, ((do let d ← resolve a.eval { callee := .value f, args := args.toArray, argTypes := ts } type; invoke d.target d.args) : Sem Next).run P w = (callFunc g vals.toArray).run P w := by
 unfold nz at h
 obtain ⟨c, _, _, hc, h, _⟩ := ae (dI f) (fun _ => Good.all _) h
 have hr := dm hf hc
 cases c with
 | fn g' caps =>
  obtain ⟨vs, _, _, hvs, h, _⟩ := ae (MX args) (fun _ => Good.all _) h
  obtain ⟨h3, _⟩ := af h
  obtain ⟨rfl, rfl⟩ := Prod.mk.inj h3
  obtain ⟨h4, h5⟩ := hr
  refine ⟨_, jf (Hu hf hvs) (yU h4), fun ts type w => ?_⟩
  simp only [resolve, h5, Deferred.ofValue, Sem.run_bind, Sem.run_pure, Result.andThen_ok, invoke]
  simp
 | _ => exact (ag h).elim
theorem kH {TT : Nat → Option TD} (hTT : zo P TT) {t : Nat} {td te : TD} (htd : gI P t td) {S : St} {R : List Nat} (h : bF (elemOf TT td) S te R) : P.underlying t = some (.slice td.elem) ∧ gI P td.elem te := by
 unfold elemOf at h
 cases hty : td.ty with
 | slice r => rw [hty] at h; exact ⟨htd.sl r hty, hTT _ _ (aH h).1⟩
 | _ => rw [hty] at h; exact (ag h).elim
theorem QZ {F : Fx} {k : K} : ∀ {cs : List V1} {vs : List Value}, fQ F k cs vs → ∀ (j : Nat) (c : V1), cs[j]? = some c → ∃ v, vs[j]? = some v ∧ su F k c v
 | [], _, h, j, c, hj => by simp at hj
 | d :: ds, _, h, j, c, hj => by
  obtain ⟨v, vs', rfl, h1, h2⟩ := h
  cases j with
  | zero => simp at hj; subst hj; exact ⟨v, rfl, h1⟩
  | succ j => simpa using QZ h2 j c (by simpa using hj)
theorem vU {F : Fx} {k : K} (hk : aI F k) {S : St} (hS : k.h = lkH S.H) {a : Act} (hf : FrR F k S.fr a) {TT : Nat → Option TD} (hTT : zo P TT) {Φ : Nat → Option ax} (hΦ : dw P Φ) {o : Oper} {U : Upd} {R : List Nat} (h : bF (step TT Φ o) S U R) :
 mM P F k (execOp a.eval o) U := by
 obtain ⟨dst, op, type, pos, after, guard⟩ := o
 unfold step at h
 unfold execOp
 cases op with
 | move x | assign x =>
  obtain ⟨v, _, _, hv, h, _⟩ := ae (lK x) (fun _ => Good.all _) h
  obtain ⟨rfl, _⟩ := af h
  exact nK hk (v := a.eval x) rfl (jC hf hv)
 | pick c x y =>
  obtain ⟨cc, _, _, hc, h, _⟩ := ae (dI c) (fun _ => Good.all _) h
  have hc := dm hf hc
  obtain ⟨t, rfl⟩ : ∃ t, cc = .v .bool t := by
   split at h
   ·exact ⟨_, rfl⟩
   ·exact (ag h).elim
  have hc := fJ (F := F) (K := k) hc
  cases t with
  | true =>
   have h' : bF (M.bind (opd x) fun v => M.pure ⟨v, []⟩) S U _ := h
   obtain ⟨v, _, _, hv, h', _⟩ := ae (lK x) (fun _ => Good.all _) h'
   obtain ⟨rfl, _⟩ := af h'
   exact nK hk (v := a.eval x) (by simp [hc, asBool]) (jC hf hv)
  | false =>
   have h' : bF (M.bind (opd y) fun v => M.pure ⟨v, []⟩) S U _ := h
   obtain ⟨v, _, _, hv, h', _⟩ := ae (lK y) (fun _ => Good.all _) h'
   obtain ⟨rfl, _⟩ := af h'
   exact nK hk (v := a.eval y) (by simp [hc, asBool]) (jC hf hv)
 | alloc t =>
  obtain ⟨d, _, _, hd, h, _⟩ := ae (lC _) (fun _ => Good.all _) h
  obtain ⟨td, _, _, ht, h, _⟩ := ae (Good.aY _) (fun _ => Good.all _) h
  obtain ⟨ob, _, _, ho, h, _⟩ := ae (Good.rdO _) (fun _ => Good.all _) h
  obtain ⟨_, _, _, hg, h, _⟩ := ae (Good.guard _) (fun _ => Good.all _) h
  obtain ⟨rfl, _⟩ := af h
  exact fA (Ur hk (xk hS ho hg) (hTT _ _ (aH ht).1))
 | box t x =>
  obtain ⟨d, _, _, hd, h, _⟩ := ae (lC _) (fun _ => Good.all _) h
  obtain ⟨v, _, _, hv, h, _⟩ := ae (nM x) (fun _ => Good.all _) h
  obtain ⟨_, _, _, hkn, h, _⟩ := ae (Good.guard _) (fun _ => Good.all _) h
  obtain ⟨ob, _, _, ho, h, _⟩ := ae (Good.rdO _) (fun _ => Good.all _) h
  obtain ⟨_, _, _, hg, h, _⟩ := ae (Good.guard _) (fun _ => Good.all _) h
  obtain ⟨rfl, _⟩ := af h
  obtain ⟨vs, h1, h2⟩ := kY (kS hf hv) (aB hkn).1
  exact fA (C_ hk (xk hS ho hg) (T := t) h1 h2)
 | build t parts =>
  obtain ⟨td, _, _, ht, h, _⟩ := ae (Good.aY _) (fun _ => Good.all _) h
  obtain ⟨_, _, _, hg, h, _⟩ := ae (Good.guard _) (fun _ => Good.all _) h
  obtain ⟨vs, _, _, hvs, h, _⟩ := ae (BQ _) (fun _ => Good.all _) h
  obtain ⟨cs, _, _, hcs, h, _⟩ := ae (Good.aY _) (fun _ => Good.all _) h
  obtain ⟨rfl, _⟩ := af h
  obtain ⟨v, h1, h2⟩ := Qv hf hTT (hTT _ _ (aH ht).1) (aB hg).1 hvs (aH hcs).1
  exact fA (Does.pure hk h1 (a := .w (.agg cs)) h2)
 | buildSlice t len parts =>
  obtain ⟨d, _, _, hd, h, _⟩ := ae (lC _) (fun _ => Good.all _) h
  obtain ⟨td, _, _, ht, h, _⟩ := ae (Good.aY _) (fun _ => Good.all _) h
  obtain ⟨te, _, _, hte, h, _⟩ := ae (l_ _ _) (fun _ => Good.all _) h
  obtain ⟨h1, h2⟩ := kH hTT (hTT _ _ (aH ht).1) hte
  exact fA (BR hk hS hf h1 h2 h)
 | load t x =>
  obtain ⟨td, _, _, ht, h, _⟩ := ae (Good.aY _) (fun _ => Good.all _) h
  obtain ⟨p, _, _, hp, h, _⟩ := ae (dI x) (fun _ => Good.all _) h
  obtain ⟨v, _, _, hv, h, _⟩ := ae (SG _ _ _) (fun _ => Good.all _) h
  obtain ⟨rfl, _⟩ := af h
  exact fA (NT hk hS (hTT _ _ (aH ht).1) hv (dm hf hp))
 | store t x y =>
  obtain ⟨td, _, _, ht, h, _⟩ := ae (Good.aY _) (fun _ => Good.all _) h
  obtain ⟨p, _, _, hp, h, _⟩ := ae (dI x) (fun _ => Good.all _) h
  obtain ⟨v, _, _, hv, h, _⟩ := ae (nM y) (fun _ => Good.all _) h
  exact al3 (Ju hk hS (hTT _ _ (aH ht).1) h (dm hf hp) (kS hf hv))
 | nilCheck x =>
  obtain ⟨c, _, _, hc, h, _⟩ := ae (dI x) (fun _ => Good.all _) h
  have hc := dm hf hc
  have fin : ∀ {c : C} {ad : Addr} {R : List Nat}, dS F k c (a.eval x) → a.eval x = .pointer (some ad) → bF (val c) S U R → mM P F k (match a.eval x with
   | .pointer none | .nilIface | .nilFunc => runtimePanic .nilDeref
   | .func (.method name) first captured =>
    match (first[0]? : Option Value) with
    | some .nilIface => runtimePanic .nilDeref
    | some (.iface t w) => do
     if (← nilAhead ((← program).types.size + Made.depth) t w name) != some false then
      unsupported (.noEntry "op/nilCheck.the method's receiver behind this interface value is a nil pointer, or cannot be seen to be none, and the arguments act or may panic (ledger 612)")
     pure (.value (.func (.method name) first captured))
    | _ => pure (.value (.func (.method name) first captured))
   | x => pure (.value x)) U := by
   intro c ad R hc hv h
   obtain ⟨rfl, _⟩ := af h
   rw [hv] at hc ⊢
   exact nK hk rfl hc
  cases c with
  | pb id off => exact fin hc hc.2 h
  | pd t d => obtain ⟨ad, vs, hv, _⟩ := id hc; exact fin hc hv h
  | pa id j p =>
   have hc' := hc
   obtain ⟨⟨ad, hv⟩, hr⟩ := hc'
   exact fin hc hv h
  | _ => exact (ag h).elim
 | binOp op t x y yt => exact fA (acP hk hf hTT h)
 | unOp op t x => exact fA (afR hk hf h)
 | convert s d x => exact fA (Vj hk hS hf hTT h)
 | makeFunc fn first caps =>
  cases fn with
  | func g =>
   obtain ⟨_, _, _, hg, h, _⟩ := ae (Good.guard _) (fun _ => Good.all _) h
   have hg := (aB hg).1
   obtain ⟨l, _, _, hl, h, _⟩ := ae (Gw _) (fun _ => Good.all _) h
   obtain ⟨rfl, _⟩ := af h
   obtain ⟨h1, h2⟩ := Dh hf hl
   have he : first = #[] := by simpa using hg
   subst he
   refine fA (Does.pure hk (v := .func (.func g) #[] (caps.map a.eval)) (by simp [Instr.makeFunc]) ⟨h1, ?_⟩)
   rw [← h2]
   congr 1
   apply Array.ext'
   simp
  | _ => exact (ag h).elim
 | makeSlice t l c =>
  obtain ⟨d, _, _, hd, h, _⟩ := ae (lC _) (fun _ => Good.all _) h
  obtain ⟨td, _, _, ht, h, _⟩ := ae (Good.aY _) (fun _ => Good.all _) h
  obtain ⟨te, _, _, hte, h, _⟩ := ae (l_ _ _) (fun _ => Good.all _) h
  obtain ⟨h1, h2⟩ := kH hTT (hTT _ _ (aH ht).1) hte
  exact fA (VJ hk hS hf h1 h2 h)
 | slice t x lo hi mx =>
  obtain ⟨td, _, _, ht, h, _⟩ := ae (Good.aY _) (fun _ => Good.all _) h
  have htd := hTT _ _ (aH ht).1
  cases hty : td.ty with
  | slice r =>
   rw [hty] at h
   obtain ⟨te, _, _, hte, h, _⟩ := ae (Good.aY _) (fun _ => Good.all _) h
   cases mx with
   | none => exact fA (DJ hk hS hf (sl := true) (te := te) ⟨td.elem, htd.sl r hty, hTT _ _ (aH hte).1⟩ h)
   | some m => exact fA (Pz hk hf (htd.sl r hty) (hTT _ _ (aH hte).1) h)
  | str =>
   rw [hty] at h
   exact fA (DJ hk hS hf (sl := false) (te := td) (htd.str hty) h)
  | _ => rw [hty] at h; exact (ag h).elim
 | fieldAddr t x j =>
  obtain ⟨td, _, _, ht, h, _⟩ := ae (Good.aY _) (fun _ => Good.all _) h
  obtain ⟨p, _, _, hp, h, _⟩ := ae (dI x) (fun _ => Good.all _) h
  obtain ⟨c, _, _, hc, h, _⟩ := ae (BX _ _ _) (fun _ => Good.all _) h
  obtain ⟨rfl, _⟩ := af h
  obtain ⟨v, h1, h2⟩ := yH hk hS (hTT _ _ (aH ht).1) hc (dm hf hp)
  exact fA (Does.pure hk h1 h2)
 | field t x j =>
  obtain ⟨td, _, _, ht, h, _⟩ := ae (Good.aY _) (fun _ => Good.all _) h
  obtain ⟨v, _, _, hv, h, _⟩ := ae (nM x) (fun _ => Good.all _) h
  have hv := kS hf hv
  have htd := hTT _ _ (aH ht).1
  cases v with
  | one c => exact (ag h).elim
  | agg cs =>
   obtain ⟨f, _, _, hff, h, _⟩ := ae (Good.aY _) (fun _ => Good.all _) h
   obtain ⟨tf, _, _, htf, h, _⟩ := ae (Good.aY _) (fun _ => Good.all _) h
   obtain ⟨_, _, _, hg, h, _⟩ := ae (Good.guard _) (fun _ => Good.all _) h
   have hfj := (aH hff).1
   have htf := hTT _ _ (aH htf).1
   have hle := Nat.le_of_ble_eq_true (aB hg).1
   have hagg : td.agg = true := by
    cases ha : td.agg
    ·rw [(htd.noagg ha).2.1] at hfj; simp at hfj
    ·rfl
   obtain ⟨fs, hu, hfl⟩ := htd.agg hagg
   rw [← hfl] at hfj
   simp only [List.getElem?_map, Option.map_eq_some_iff] at hfj
   obtain ⟨fd, hfd, rfl⟩ := hfj
   obtain ⟨vs, hvx, hrel⟩ := hv
   have hlen := hrel.length
   obtain ⟨hpa, hpo⟩ := RG htf (w := k.w) (cells := vs) (off := fd.offset) (by omega)
   obtain ⟨_, hdr⟩ := hrel.take fd.offset
   obtain ⟨htk, _⟩ := hdr.take tf.sz
   have hfd' : fs[j]? = some fd := by simpa using hfd
   have hrun : ∀ v, (part fd.type vs.toArray fd.offset).run P k.w = .ok v k.w → (Instr.field t (a.eval x) j).run P k.w = .ok v k.w := by
    intro v hv
    simp [Instr.field, run_underlying hu, hfd', hvx, asAgg, hv]
   cases ha : tf.agg with
   | true =>
    rw [ha] at h
    obtain ⟨rfl, _⟩ := af h
    exact fA (Does.pure hk (a := .w (.agg _)) (hrun _ (hpa ha)) ⟨_, rfl, htk⟩)
   | false =>
    rw [ha] at h
    obtain ⟨v, hv1, hv2⟩ := hpo ha
    rw [hv1] at htk
    dsimp only at h htk
    generalize (cs.drop fd.offset).take tf.sz = cl at h htk
    match cl, htk.length with
    | [c], _ =>
     obtain ⟨rfl, _⟩ := af h
     obtain ⟨v', vs', h1, h2, _⟩ := htk
     cases h1
     exact fA (Does.pure hk (a := .w (.one c)) (hrun _ hv2) h2)
 | indexAddr t x i =>
  obtain ⟨td, _, _, ht, h, _⟩ := ae (Good.aY _) (fun _ => Good.all _) h
  obtain ⟨te, _, _, hte, h, _⟩ := ae (l_ _ _) (fun _ => Good.all _) h
  obtain ⟨h1, h2⟩ := kH hTT (hTT _ _ (aH ht).1) hte
  obtain ⟨cx, _, _, hx, h, _⟩ := ae (dI x) (fun _ => Good.all _) h
  obtain ⟨ci, _, _, hi, h, _⟩ := ae (dI i) (fun _ => Good.all _) h
  have hi := dm hf hi
  obtain ⟨kk, n, rfl⟩ : ∃ kk n, ci = .v (.int kk) n := by
   split at h
   ·exact ⟨_, _, rfl⟩
   ·exact (ag h).elim
  obtain ⟨c, _, _, hc, h, _⟩ := ae (zL _ _ _) (fun _ => Good.all _) h
  obtain ⟨rfl, _⟩ := af h
  obtain ⟨v, h3, h4⟩ := yw hk hS h1 h2 hc (dm hf hx) kk
  rw [← (jS (F := F) (K := k) hi).1] at h3
  exact fA (Does.pure hk h3 h4)
 | index t x i =>
  obtain ⟨td, _, _, ht, h, _⟩ := ae (Good.aY _) (fun _ => Good.all _) h
  have htd := hTT _ _ (aH ht).1
  cases hty : td.ty with
  | str => rw [hty] at h; exact fA (Tc hk hf (htd.str hty) h)
  | _ => rw [hty] at h; exact (ag h).elim
 | extract x j =>
  obtain ⟨v, _, _, hv, h, _⟩ := ae (lK x) (fun _ => Good.all _) h
  have hv := jC hf hv
  cases v with
  | w v => exact (ag h).elim
  | tup vs =>
   obtain ⟨v, _, _, hvj, h, _⟩ := ae (Good.aY _) (fun _ => Good.all _) h
   obtain ⟨rfl, _⟩ := af h
   obtain ⟨xs, hx, hr⟩ := hv
   obtain ⟨y, hy, hry⟩ := QZ hr j v (aH hvj).1
   exact fA (Does.pure hk (a := .w v) (v := y) (by simp [Instr.extract, hx, hy]) hry)
 | call c =>
  obtain ⟨callee, args, ts⟩ := c
  cases callee with
  | value f =>
   obtain ⟨⟨g, avs⟩, _, _, hg, h, _⟩ := ae (vF _ _) (fun _ => Good.all _) h
   obtain ⟨s, _, _, hs, h, _⟩ := ae (Good.aY _) (fun _ => Good.all _) h
   obtain ⟨vals, h1, h2⟩ := xO hf hg
   have := hΦ hk hS (aH hs).1 h1 h
   have h3 := h2 ts type k.w
   have hargs : args.toList.toArray = args := by simp
   rw [hargs] at h3
   unfold mM at this ⊢
   dsimp only
   rw [h3]
   exact this
  | builtin b =>
   cases b with
   | len =>
    obtain ⟨x, t, ha, ht⟩ : ∃ x t, args.toList = [x] ∧ ts.toList = [t] := by
     dsimp only at h
     split at h
     ·exact ⟨_, _, by assumption, by assumption⟩
     ·exact (ag h).elim
    dsimp only at h
    rw [ha, ht] at h
    obtain rfl : args = #[x] := Array.ext' ha
    obtain rfl : ts = #[t] := Array.ext' ht
    obtain ⟨td, _, _, htt, h, _⟩ := ae (Good.aY _) (fun _ => Good.all _) h
    have htd := hTT _ _ (aH htt).1
    have hb : ∀ {sl : Bool} {R : List Nat}, (if sl = true then ∃ e, P.underlying t = some (.slice e) else P.underlying t = some .string) → bF (zu sl x) S U R →
     mM P F k (do let d ← resolve a.eval { callee := .builtin .len, args := #[x], argTypes := #[t] } type; invoke d.target d.args) U := by
     intro sl R ht h
     have := fA (aby hk hS hf ht type h)
     unfold mM at this ⊢
     have e : ((do let d ← resolve a.eval { callee := .builtin .len, args := #[x], argTypes := #[t] } type; invoke d.target d.args) : Sem Next).run P k.w = ((do pure (Next.value (← Builtin.len_ #[t] type #[a.eval x])) : Sem Next)).run P k.w := by
      simp only [resolve, Sem.run_bind, Sem.run_pure, Result.andThen_ok, invoke, builtin]
      rw [show #[x].map a.eval = #[a.eval x] by simp]
     rw [e]
     exact this
    cases hty : td.ty with
    | slice r => rw [hty] at h; exact hb (sl := true) ⟨_, htd.sl r hty⟩ h
    | str => rw [hty] at h; exact hb (sl := false) (htd.str hty) h
    | _ => rw [hty] at h; exact (ag h).elim
   | append =>
    obtain ⟨x, y, t, t', ha, ht⟩ : ∃ x y t t', args.toList = [x, y] ∧ ts.toList = [t, t'] := by
     dsimp only at h
     split at h
     ·exact ⟨_, _, _, _, by assumption, by assumption⟩
     ·exact (ag h).elim
    dsimp only at h
    rw [ha, ht] at h
    obtain rfl : args = #[x, y] := Array.ext' ha
    obtain rfl : ts = #[t, t'] := Array.ext' ht
    obtain ⟨_, _, _, hg, h0, _⟩ := ae (Good.guard _) (fun _ => Good.all _) h
    obtain rfl := Nat.eq_of_beq_eq_true (aB hg).1
    clear h
    have h := h0
    clear h0
    obtain ⟨d, _, _, hd, h, _⟩ := ae (lC _) (fun _ => Good.all _) h
    obtain ⟨td, _, _, htt, h, _⟩ := ae (Good.aY _) (fun _ => Good.all _) h
    obtain ⟨te, _, _, hte, h, _⟩ := ae (l_ _ _) (fun _ => Good.all _) h
    obtain ⟨h1, h2⟩ := kH hTT (hTT _ _ (aH htt).1) hte
    have := fA (Pq hk hS hf h1 h2 type h)
    unfold mM at this ⊢
    have e : ((do let d ← resolve a.eval { callee := .builtin .append, args := #[x, y], argTypes := #[t, t] } type; invoke d.target d.args) : Sem Next).run P k.w = ((do pure (Next.value (← Builtin.append_ #[t, t] type #[a.eval x, a.eval y])) : Sem Next)).run P k.w := by
     simp only [resolve, Sem.run_bind, Sem.run_pure, Result.andThen_ok, invoke, builtin]
     rw [show #[x, y].map a.eval = #[a.eval x, a.eval y] by simp]
    dsimp only
    rw [e]
    exact this
   | _ => exact (ag h).elim
  | invoke r m => exact (ag h).elim
 | _ => exact (ag h).elim
end mem
end Go.MC
namespace Go.MC
open Go.RowKit
structure d_ (F : Fx) (G : Nat → Prop) (k k' : K) : Prop where
 size : k.w.heap.size ≤ k'.w.heap.size
 ok : ∀ b, k.ok F b → k'.ok F b
 hp : ∀ b, k.ok F b → b < k.w.heap.size → k'.w.heap[b]? = k.w.heap[b]?
 box : ∀ id, G id → ∀ cs, k.h id = some (.box cs) → (∃ cs', k'.h id = some (.box cs')) ∧ k'.μ id = k.μ id
 arr : ∀ id, G id → ∀ e r xs d, k.h id = some (.arr e r xs d) → (∃ xs' d', k'.h id = some (.arr e r xs' d') ∧ xs'.length = xs.length ∧ k'.ν id = k.ν id) ∨ (∃ r' xs', k'.h id = some (.imm r' xs') ∧ k'.ν id = k.ν id) ∨ k'.h id = some .gone
 imm : ∀ id, G id → ∀ r xs, k.h id = some (.imm r xs) → ∃ r' xs', k'.h id = some (.imm r' xs') ∧ k'.ν id = k.ν id
 gone : ∀ id, G id → k.h id = some .gone → k'.h id = some .gone
theorem Le.on {F : Fx} {k k' : K} (h : Le F k k') (G : Nat → Prop) : d_ F G k k' :=
 ⟨h.size, h.ok, h.hp, fun id _ => h.box id, fun id _ => h.arr id, fun id _ => h.imm id, fun id _ => h.gone id⟩
theorem d_.le {F : Fx} {G : Nat → Prop} {k k' : K} (h : d_ F G k k') (hG : ∀ id o, k.h id = some o → G id) : Le F k k' :=
 ⟨h.size, h.ok, h.hp, fun id cs hc => h.box id (hG _ _ hc) cs hc, fun id e r xs d hc => h.arr id (hG _ _ hc) e r xs d hc, fun id r xs hc => h.imm id (hG _ _ hc) r xs hc, fun id hc => h.gone id (hG _ _ hc) hc⟩
theorem d_.trans {F : Fx} {G G' : Nat → Prop} {a b c : K} (h : d_ F G a b) (g : d_ F G' b c) (hG : ∀ id, G id → G' id) : d_ F G a c := by
 refine ⟨Nat.le_trans h.size g.size, fun x hx => g.ok x (h.ok x hx), fun x hx hlt => (g.hp x (h.ok x hx) (Nat.lt_of_lt_of_le hlt h.size)).trans (h.hp x hx hlt), fun id hi cs hc => ?_, fun id hi e r xs d hc => ?_, fun id hi r xs hc => ?_, fun id hi hc => g.gone id (hG id hi) (h.gone id hi hc)⟩
 ·obtain ⟨⟨cs', h1⟩, h2⟩ := h.box id hi cs hc
  obtain ⟨h3, h4⟩ := g.box id (hG id hi) cs' h1
  exact ⟨h3, h4.trans h2⟩
 ·rcases h.arr id hi e r xs d hc with ⟨xs', d', h1, h3, h2⟩ | ⟨r', xs', h1, h2⟩ | h1
  ·rcases g.arr id (hG id hi) e r xs' d' h1 with ⟨xs2, d2, h4, h6, h5⟩ | ⟨r2, xs2, h4, h5⟩ | h4
   ·exact .inl ⟨xs2, d2, h4, h6.trans h3, h5.trans h2⟩
   ·exact .inr (.inl ⟨r2, xs2, h4, h5.trans h2⟩)
   ·exact .inr (.inr h4)
  ·obtain ⟨r2, xs2, h4, h5⟩ := g.imm id (hG id hi) r' xs' h1
   exact .inr (.inl ⟨r2, xs2, h4, h5.trans h2⟩)
  ·exact .inr (.inr (g.gone id (hG id hi) h1))
 ·obtain ⟨r', xs', h1, h2⟩ := h.imm id hi r xs hc
  obtain ⟨r2, xs2, h3, h4⟩ := g.imm id (hG id hi) r' xs' h1
  exact ⟨r2, xs2, h3, h4.trans h2⟩
theorem d_.step {F : Fx} {G : Nat → Prop} {a b c : K} (h : d_ F G a b) (g : Le F b c) : d_ F G a c := h.trans (g.on G) fun _ h => h
structure Sim (F : Fx) (k : K) (S : St) (a : Act) (nt : Nat) : Prop where
 hk : aI F k
 hS : k.h = lkH S.H
 hf : FrR F k S.fr a
 sz : a.tmps.size = nt
 df : a.defers = []
def IP (nt : Nat) : Option Nat → Bool
 | some d => Nat.blt d nt
 | none => true
theorem PI (a : Act) (dst : Option Tmp) (v : Value) : (a.put dst v).tmps.size = a.tmps.size := by cases dst <;> simp [Act.put]
theorem NL (a : Act) (dst : Option Tmp) (v : Value) : (a.put dst v).defers = a.defers := by cases dst <;> rfl
theorem sF (j : Nat) (v : AV) (fr : List (Nat × AV)) (t : Nat) : lkF ((j, v) :: fr) t = if t = j then v else lkF fr t := by
 simp only [lkF]
 by_cases h : t = j
 ·subst h; simp [Nat.beq_refl]
 ·have : Nat.beq j t = false := by
   cases hb : Nat.beq j t
   ·rfl
   ·exact absurd (Nat.eq_of_beq_eq_true hb).symm h
  simp [this, h]
theorem FrR.put {F : Fx} {k : K} {fr : List (Nat × AV)} {a : Act} (hf : FrR F k fr a) {dst : Option Tmp} {c : AV} {v : Value} (hd : IP a.tmps.size dst = true) (hr : iq F k c v) : FrR F k (uU dst c fr) (a.put dst v) := by
 cases dst with
 | none => exact hf
 | some d =>
  have hd : d < a.tmps.size := by simpa [IP, Nat.blt_eq] using hd
  intro t
  show iq F k (lkF ((d, c) :: fr) t) _
  rw [sF]
  by_cases h : t = d
  ·subst h
   rw [if_pos rfl]
   have : (a.put (some t) v).eval (.tmp t) = v := by simp [Act.put, Act.eval, hd]
   rw [this]
   exact hr
  ·rw [if_neg h, Act.eval_put (fun d' hd' he => by injection hd' with hd'; injection he with he; exact h (he.trans hd'.symm))]
   exact hf t
theorem uO {F : Fx} {k k' : K} {S : St} {a : Act} {nt : Nat} (h : Sim F k S a nt) {dst : Option Tmp} {U : Upd} {v : Value} (hd : IP nt dst = true) (hh : k'.h = (k.put U.obs).h) (hk' : aI F k') (hle : Le F k k') (hr : iq F k' U.val v) :
 Sim F k' (app dst U S) (a.put dst v) nt :=
 ⟨hk', by rw [hh, apE h.hS]; rfl, (h.hf.le hle).put (by rw [h.sz]; exact hd) hr, (PI _ _ _).trans h.sz, (NL _ _ _).trans h.df⟩
theorem SH {F : Fx} {k : K} {S : St} {a : Act} {nt : Nat} (h : Sim F k S a nt) {dst : Option Tmp} (hd : IP nt dst = true) : Sim F k (app dst unk S) (a.put dst undef) nt :=
 ⟨h.hk, h.hS, h.hf.put (by rw [h.sz]; exact hd) rfl, (PI _ _ _).trans h.sz, (NL _ _ _).trans h.df⟩
theorem xW {ρ : Type} {r : ρ} {F : Fx} {k : K} {S : St} {a : Act} {nt i : Nat} (hs : Sim F k S a nt) {kt kf : St → Option ρ} (h : Hl S i kt kf = some r) :
 ∃ b, a.eval (.tmp i) = .bool b ∧ lkF S.fr i = bV b ∧ (if b = true then kt (Hg S i (bV true)) = some r else kf (Hg S i (bV false)) = some r) ∧ Sim F k (Hg S i (bV b)) a nt := by
 unfold Hl at h
 split at h
 ·rename_i b heq
  have hr := hs.hf i
  rw [heq] at hr
  have hv := fJ (F := F) (K := k) hr
  refine ⟨b, hv, heq, ?_, hs.hk, hs.hS, fun t => ?_, hs.sz, hs.df⟩
  ·cases b
   ·simpa using h
   ·simpa using h
  ·show iq F k (lkF ((i, bV b) :: S.fr) t) _
   rw [sF]
   split
   ·rename_i ht; subst ht; rw [hv]; exact rfl
   ·exact hs.hf t
 ·cases h
theorem u_ {ρ : Type} {r : ρ} {F : Fx} {k : K} {S : St} {a : Act} {nt i : Nat} (hs : Sim F k S a nt) {kt kf kn : St → Option ρ} (h : mF S i kt kf kn = some r) :
 (∃ b, a.eval (.tmp i) = .bool b ∧ lkF S.fr i = bV b ∧ (if b = true then kt (Hg S i (bV true)) = some r else kf (Hg S i (bV false)) = some r) ∧ Sim F k (Hg S i (bV b)) a nt) ∨ (a.eval (.tmp i) = undef ∧ lkF S.fr i = .w (.one .nd) ∧ kn S = some r) := by
 unfold mF at h
 split at h
 ·rename_i b heq
  exact .inl (xW hs (kt := kt) (kf := kf) (by unfold Hl; rw [heq]; exact h))
 ·rename_i heq
  have hr := hs.hf i
  rw [heq] at hr
  exact .inr ⟨hr, heq, h⟩
 ·cases h
theorem pg {ops : Array Oper} {o : Oper} {j s : Nat} {want : Bool} {a : Act} (hg : o.guard = some (j, want)) (hs : dW ops.toList j = some s) (hv : a.eval (.tmp s) = undef) : Region.wanted o (yielded ops a.tmps) = false := by
 have h1 : ((ops[j]?).bind (·.dst)).bind (a.tmps[·]?) = none ∨ ((ops[j]?).bind (·.dst)).bind (a.tmps[·]?) = some undef := by
  unfold dW at hs
  rw [Array.getElem?_toList] at hs
  rw [hs]
  simp only [Option.bind_some]
  simp only [Act.eval, Array.getD_eq_getD_getElem?] at hv
  cases h2 : a.tmps[s]? with
  | none => exact .inl rfl
  | some v =>
   rw [h2] at hv
   exact .inr (by rw [← hv]; rfl)
 unfold Region.wanted
 rw [hg]
 rcases h1 with h1 | h1 <;> simp [yielded, h1, undef]
theorem oh {ops : Array Oper} {o : Oper} {j s : Nat} {want b : Bool} {a : Act} (hg : o.guard = some (j, want)) (hs : dW ops.toList j = some s) (hv : a.eval (.tmp s) = .bool b) : Region.wanted o (yielded ops a.tmps) = (b == want) := by
 have h1 : ((ops[j]?).bind (·.dst)).bind (a.tmps[·]?) = some (.bool b) := by
  unfold dW at hs
  rw [Array.getElem?_toList] at hs
  rw [hs]
  simp only [Option.bind_some]
  simp only [Act.eval, Array.getD_eq_getD_getElem?] at hv
  cases h : a.tmps[s]? with
  | none => rw [h] at hv; cases hv
  | some v => rw [h] at hv; simp at hv; rw [hv]
 unfold Region.wanted yielded
 simp only [hg, h1]
 cases b <;> cases want <;> rfl
section mem
variable {P : Program}
def Ia (P : Program) (inl : (ρ : Type) → Nat → List AV → List (Nat × Ob) → (AV → List (Nat × Ob) → Option ρ) → Option ρ) : Prop :=
 ∀ {ρ : Type} {g : Nat} {vs : List AV} {H : List (Nat × Ob)} {kont : AV → List (Nat × Ob) → Option ρ} {r : ρ}, inl ρ g vs H kont = some r →
   ∀ {F : Fx} {k : K} {args : List Value}, aI F k → k.h = lkH H → dw.relAs F k vs args → ∀ {R : Ending → World → Prop},
     (∀ v av k' H', kont av H' = some r → k'.h = lkH H' → aI F k' → Le F k k' → iq F k' av v → R (.returned v) k'.w) →
      (∀ w, (callFunc g args.toArray).run P w = .ok (.enter g args.toArray) w) ∧ Calls P g args.toArray k.w R
structure II (P : Program) (E : Env) : Prop where
 TT : zo P E.TT
 Φ : dw P E.Φ
 inl : Ia P E.inl
 mixed : P.follows .mixedOrders = true
theorem uY {E : Env} (hE : II P E) {ρ : Type} {r : ρ} {o : Oper} {F : Fx} {k : K} {S : St} {a : Act} {nt : Nat} (hs : Sim F k S a nt) (hd : IP nt o.dst = true) {kont : St → Option ρ}
 (h : step E.TT E.Φ o ρ S [] (fun U _ => kont (app o.dst U S)) = some r) {next : Act → World → Prop} {Q : Exit → Act → World → Prop}
 (hn : ∀ S' k' a', kont S' = some r → Sim F k' S' a' nt → Le F k k' → next a' k'.w) : o.wp P a k.w next Q := by
 obtain ⟨U, R, ht, hr⟩ := (good_step E.TT E.Φ o).tells h
 exact (vU hs.hk hs.hS hs.hf hE.TT hE.Φ ht).wp fun v k' hh hk' hle hv => hn _ k' _ hr (uO hs hd hh hk' hle hv) hle
theorem RY {y : Operand} (h : GX y = true) (a : Act) : a.eval y = .slice none 0 0 := by
 unfold GX at h
 split at h
 ·rfl
 ·cases h
theorem D6 (w : World) (d t e : Nat) (ad : Option Addr) (n c : Nat) (h : P.underlying t = some (.slice e)) : (Op.equalIn (d + 1) t (.slice ad n c) (.slice none 0 0)).run P w = .ok ad.isNone w := by
 cases ad <;> simp [Op.equalIn, run_underlying h]
theorem aij {F : Fx} {k : K} (hk : aI F k) {t : Nat} {td : TD} (htd : gI P t td) (hsl : td.isSl = true) {r : Ty} {xs : List r.den} {x y : Operand} {v : Value} (hv : dS F k (.v (.slice r) xs) v) :
 ∃ b, Does P F k (do eqGuard .eql t x y v (.slice none 0 0); binOp .eql t v (.slice none 0 0)) ⟨bV b, []⟩ ∧ (Ku xs = false → b = false) := by
 obtain ⟨ad, cap, hv, _, _, hx⟩ := hv
 obtain rfl : v = .slice ad xs.length cap := by simpa using hv
 have hty : ∃ r', td.ty = .slice r' := by
  unfold TD.isSl at hsl
  split at hsl
  ·rename_i r' h; exact ⟨r', h⟩
  ·cases hsl
 obtain ⟨r', hty⟩ := hty
 have hu := htd.sl r' hty
 refine ⟨ad.isNone, Does.pure hk (v := .bool ad.isNone) ?_ rfl, fun he => ?_⟩
 ·have e := D6 k.w 9999 t td.elem ad xs.length cap hu
  simp [eqGuard, binOp, Op.equal, Op.maxDepth, e]
 ·cases xs with
  | nil => cases he
  | cons z zs =>
   obtain ⟨ad', _, rfl, _⟩ := hx 0 z (by simp)
   rfl
theorem alj {op : Op} {t x : Nat} (h : aqN op = some (t, x)) : ∃ y yt, op = .binOp .eql t (.tmp x) y yt ∧ GX y = true := by
 unfold aqN at h
 split at h
 ·rename_i t' x' y yt
  cases hy : GX y with
  | true =>
   rw [hy] at h
   simp only [cond_true, Option.some.injEq, Prod.mk.injEq] at h
   obtain ⟨rfl, rfl⟩ := h
   exact ⟨y, yt, rfl, hy⟩
  | false => rw [hy] at h; cases h
 ·cases h
theorem Dx {E : Env} (hE : II P E) {ρ : Type} {r : ρ} {o : Oper} {F : Fx} {k : K} {S : St} {a : Act} {nt : Nat} (hs : Sim F k S a nt) (hd : IP nt o.dst = true) {kont : St → Option ρ}
 (h : F8 E o S kont = some r) {next : Act → World → Prop} {Q : Exit → Act → World → Prop}
 (hn : ∀ S' k' a', kont S' = some r → Sim F k' S' a' nt → Le F k k' → next a' k'.w) : o.wp P a k.w next Q := by
 obtain ⟨dst, op, type, pos, after, guard⟩ := o
 unfold F8 at h
 split at h
 ·rename_i f args ts hop
  dsimp only at hop
  subst hop
  obtain ⟨⟨g, avs⟩, R, ht, hr⟩ := (vF f args.toList).tells h
  dsimp only at hr
  cases hΦ : PU E.Φ g avs with
  | some s =>
   rw [hΦ] at hr
   refine uY hE hs hd (kont := kont) ?_ hn
   show (M.bind (nz f args.toList) fun ga => M.bind (aY (PU E.Φ ga.1 ga.2)) fun s => jV s (dst.getD 0) ga.2) ρ S [] _ = some r
   obtain ⟨U, R2, ht2, hr2⟩ := (Jl s (dst.getD 0) avs).tells hr
   have e1 := ht S (fun _ _ => Agree.refl _ _) ρ [] (fun ga L' => (M.bind (aY (PU E.Φ ga.1 ga.2)) fun s => jV s (dst.getD 0) ga.2) ρ S L' fun U _ => kont (app dst U S))
   refine (run_bind _ _ _ _ _ _).trans (e1.trans ?_)
   show (M.bind (aY (PU E.Φ g avs)) fun s => jV s (dst.getD 0) avs) ρ S _ _ = some r
   rw [hΦ]
   exact (ht2 S (fun _ _ => Agree.refl _ _) ρ _ _).trans hr2
  | none =>
   rw [hΦ] at hr
   dsimp only at hr
   obtain ⟨vals, h1, h2⟩ := xO hs.hf ht
   have h3 := h2 ts type k.w
   have hargs : args.toList.toArray = args := by simp
   rw [hargs] at h3
   obtain ⟨h4, h5⟩ := hE.inl hr hs.hk hs.hS h1 (R := fun e w' => ∃ v, e = .returned v ∧ next (a.put dst v) w') (fun v av k' H' hk1 hk2 hk3 hle hv =>
    ⟨v, rfl, hn _ k' _ hk1 ⟨hk3, hk2, (hs.hf.le hle).put (by rw [hs.sz]; exact hd) hv, (PI _ _ _).trans hs.sz, (NL _ _ _).trans hs.df⟩ hle⟩)
   unfold Oper.wp
   have e : (execOp a.eval ({ dst := dst, op := Op.call { callee := Callee.value f, args := args, argTypes := ts }, type := type, pos := pos, after := after, guard := guard } : Oper)).run P k.w = .ok (.enter g vals.toArray) k.w := by
    rw [← h4 k.w, ← h3]
    rfl
   rw [e, Oper.upon_enter]
   refine Calls.mono h5 ?_
   rintro e w' ⟨v, rfl, hv⟩
   exact hv
 ·rename_i hop
  split at h
  ·rename_i t x hnil
   obtain ⟨y, yt, ho, hy⟩ := alj hnil
   dsimp only at ho
   subst ho
   split at h
   ·rename_i r' xs td hv htd
    cases hsl : td.isSl with
    | false => rw [hsl] at h; cases h
    | true =>
     rw [hsl] at h
     simp only [cond_true] at h
     have hx := hs.hf x
     rw [hv] at hx
     obtain ⟨b, hb, hbf⟩ := aij hs.hk (hE.TT _ _ htd) hsl (x := .tmp x) (y := y) hx
     have hy := RY hy a
     have hst : mM P F k (execOp a.eval ({ dst := dst, op := Op.binOp .eql t (.tmp x) y yt, type := type, pos := pos, after := after, guard := guard } : Oper)) ⟨bV b, []⟩ := by
      unfold execOp
      refine fA ?_
      rw [hy]
      exact hb
     have hk : kont (app dst ⟨bV b, []⟩ S) = some r := by
      cases he : Ku xs with
      | true =>
       rw [he] at h
       obtain ⟨h1, h2⟩ := amb h
       cases b
       ·exact h2
       ·exact h1
      | false =>
       rw [he] at h
       rw [hbf he]
       exact h
     exact hst.wp fun v k' hh hk' hle hv => hn _ k' _ hk (uO hs hd hh hk' hle hv) hle
   ·cases h
  ·exact uY hE hs hd h hn
theorem xJ {E : Env} (hE : II P E) {ρ : Type} {r : ρ} {ops : Array Oper} {F : Fx} {G : Nat → Prop} {k0 : K} {nt : Nat} {Q : Exit → Act → World → Prop} {kont : St → Option ρ}
 (hQ : ∀ S' k' a', kont S' = some r → Sim F k' S' a' nt → d_ F G k0 k' → Q .normal a' k'.w) :
 ∀ {rest : List Oper} {k : K} {S : St} {a : Act}, (∀ o ∈ rest, IP nt o.dst = true) → ku E ops.toList rest S kont = some r → Sim F k S a nt → d_ F G k0 k → wpList P ops Q rest a k.w
 | [], k, S, a, _, h, hs, hle => hQ S k a h hs hle
 | o :: rest, k, S, a, hd, h, hs, hle => by
  have hdo := hd o (by simp)
  have ih := @xJ E hE ρ r ops F G k0 nt Q kont hQ rest
  have run : ∀ {S : St}, Sim F k S a nt → Region.wanted o (yielded ops a.tmps) = true → F8 E o S (fun S' => ku E ops.toList rest S' kont) = some r → wpList P ops Q (o :: rest) a k.w := by
   intro S hs hw h
   unfold wpList
   rw [if_pos hw]
   exact .inl (Dx hE hs hdo h fun S' k' a' hk hs' hle' => ih (fun o ho => hd o (by simp [ho])) hk hs' (hle.step hle'))
  have skip : ∀ {S : St}, Sim F k S a nt → Region.wanted o (yielded ops a.tmps) = false → ku E ops.toList rest (app o.dst unk S) kont = some r → wpList P ops Q (o :: rest) a k.w := by
   intro S hs hw h
   unfold wpList
   rw [if_neg (by rw [hw]; simp)]
   exact ih (fun o ho => hd o (by simp [ho])) h (SH hs hdo) hle
  unfold ku at h
  cases hg : o.guard with
  | none =>
   rw [hg] at h
   exact run hs (by unfold Region.wanted; rw [hg]) h
  | some gw =>
   obtain ⟨j, want⟩ := gw
   rw [hg] at h
   dsimp only at h
   cases hsl : dW ops.toList j with
   | none => rw [hsl] at h; cases h
   | some s =>
    rw [hsl] at h
    dsimp only at h
    cases want with
    | true =>
     simp only [cond_true] at h
     rcases u_ hs h with ⟨b, hv, _, hb, hs'⟩ | ⟨hv, _, hb⟩
     ·have hw := oh hg hsl hv
      cases b with
      | true => exact run hs' (by rw [hw]; rfl) (by simpa using hb)
      | false => exact skip hs' (by rw [hw]; rfl) (by simpa using hb)
     ·exact skip hs (pg hg hsl hv) hb
    | false =>
     simp only [cond_false] at h
     rcases u_ hs h with ⟨b, hv, _, hb, hs'⟩ | ⟨hv, _, hb⟩
     ·have hw := oh hg hsl hv
      cases b with
      | true => exact skip hs' (by rw [hw]; rfl) (by simpa using hb)
      | false => exact run hs' (by rw [hw]; rfl) (by simpa using hb)
     ·exact skip hs (pg hg hsl hv) hb
theorem IV {a : Act} {dst : Option Tmp} {v : Value} {s : Nat} (h : YM dst s = true) : (a.put dst v).eval (.tmp s) = a.eval (.tmp s) :=
 Act.eval_put fun d hd e => by
  subst hd
  injection e with e
  subst e
  simp [YM] at h
theorem DN {E : Env} (hE : II P E) {ρ : Type} {r : ρ} {ops : Array Oper} {rest : List Oper} {F : Fx} {k : K} {nt : Nat} {Q : Exit → Act → World → Prop} {o : Oper} {s : Nat} {b tk : Bool} {S : St} {a : Act} {fr : List (Nat × AV)} {next : St → List (Nat × AV) → Option ρ}
 (h : ahead E o s S fr next = some r) (hd : IP nt o.dst = true) (hb : a.eval (.tmp s) = .bool b) (hS : tk = true → Sim F k S a nt) (hf : Sim F k ⟨fr, S.H⟩ a nt) (hw : Region.wanted o (yielded ops a.tmps) = tk)
 (hn : ∀ S' fr' k' a', next S' fr' = some r → (tk = true → Sim F k' S' a' nt) → Sim F k' ⟨fr', S'.H⟩ a' nt → a'.eval (.tmp s) = .bool b → Le F k k' → wpList P ops Q rest a' k'.w) : wpList P ops Q (o :: rest) a k.w := by
 unfold ahead at h
 cases hne : YM o.dst s with
 | false => rw [hne] at h; cases h
 | true =>
  rw [hne, cond_true] at h
  obtain ⟨U, R, ht, hr⟩ := (good_step E.TT E.Φ o).tells h
  cases hU : U.obs with
  | cons x xs => rw [hU] at hr; cases hr
  | nil =>
   rw [hU] at hr
   dsimp only at hr
   cases tk with
   | true =>
    have hs := hS rfl
    unfold wpList
    rw [if_pos hw]
    refine .inl ((vU hs.hk hs.hS hs.hf hE.TT hE.Φ ht).wp fun v k' hh hk' hle hv => ?_)
    have h1 := uO hs hd hh hk' hle hv
    have h2 := uO hf (U := ⟨.w (.one .u), []⟩) (v := v) hd (by rw [hh, hU]) hk' hle trivial
    unfold app at h1 h2
    rw [hU] at h1
    exact hn _ _ k' _ hr (fun _ => h1) h2 ((IV hne).trans hb) hle
   | false =>
    unfold wpList
    rw [if_neg (by rw [hw]; simp)]
    refine hn _ _ k _ hr (fun h => by cases h) ?_ ((IV hne).trans hb) (Le.refl F k)
    exact ⟨hf.hk, hf.hS, hf.hf.put (by rw [hf.sz]; exact hd) trivial, (PI _ _ _).trans hf.sz, (NL _ _ _).trans hf.df⟩
def arz (F : Fx) (k : K) (S : St) (a : Act) (nt : Nat) (ops : List Oper) : Option (Nat × Nat × Bool × Bool × List (Nat × AV)) → Prop
 | none => Sim F k S a nt
 | some (j, s, want, b, fr) => dW ops j = some s ∧ a.eval (.tmp s) = .bool b ∧ ((b == want) = true → Sim F k S a nt) ∧ Sim F k ⟨fr, S.H⟩ a nt
theorem mQ {E : Env} (hE : II P E) {ρ : Type} {r : ρ} {ops : Array Oper} {F : Fx} {G : Nat → Prop} {k0 : K} {nt : Nat} {Q : Exit → Act → World → Prop} {kont : St → Option ρ}
 (hQ : ∀ S' k' a', kont S' = some r → Sim F k' S' a' nt → d_ F G k0 k' → Q .normal a' k'.w) :
 ∀ {rest : List Oper} {m : Option (Nat × Nat × Bool × Bool × List (Nat × AV))} {k : K} {S : St} {a : Act}, (∀ o ∈ rest, IP nt o.dst = true) → iH E ops.toList rest m S kont = some r → arz F k S a nt ops.toList m → d_ F G k0 k → wpList P ops Q rest a k.w
 | [], none, k, S, a, _, h, hs, hle => hQ S k a (by unfold iH at h; exact h) hs hle
 | [], some _, k, S, a, _, h, hs, hle => by unfold iH at h; cases h
 | o :: rest, none, k, S, a, hd, h, hs, hle => by
  have hdo := hd o (by simp)
  have ih := fun m => @mQ E hE ρ r ops F G k0 nt Q kont hQ rest m
  have hs : Sim F k S a nt := hs
  unfold iH at h
  cases hg : o.guard with
  | none =>
   rw [hg] at h
   unfold wpList
   rw [if_pos (by unfold Region.wanted; rw [hg])]
   exact .inl (Dx hE hs hdo h fun S' k' a' hk hs' hle' => ih none (fun o ho => hd o (by simp [ho])) hk hs' (hle.step hle'))
  | some gw =>
   obtain ⟨j, want⟩ := gw
   rw [hg] at h
   dsimp only at h
   cases hsl : dW ops.toList j with
   | none => rw [hsl] at h; cases h
   | some s =>
    rw [hsl] at h
    dsimp only at h
    split at h
    ·rename_i b heq
     have hr := hs.hf s
     rw [heq] at hr
     have hv := fJ (F := F) (K := k) hr
     exact DN hE h hdo hv (fun _ => hs) hs (oh hg hsl hv) fun S' fr' k' a' h' h1 h2 h3 hle' => ih (some (j, s, want, b, fr')) (fun o ho => hd o (by simp [ho])) h' ⟨hsl, h3, h1, h2⟩ (hle.step hle')
    ·cases h
 | o :: rest, some (j, s, want, b, fr), k, S, a, hd, h, hs, hle => by
  have hdo := hd o (by simp)
  have ih := fun m => @mQ E hE ρ r ops F G k0 nt Q kont hQ rest m
  obtain ⟨hsl, hv, h1, h2⟩ := hs
  unfold iH at h
  cases hg : o.guard with
  | some gw =>
   obtain ⟨j', want'⟩ := gw
   rw [hg] at h
   dsimp only at h
   cases hj : Nat.beq j' j && (want' == want) with
   | false => rw [hj] at h; cases h
   | true =>
    rw [hj, cond_true] at h
    simp only [Bool.and_eq_true] at hj
    have e1 := Nat.eq_of_beq_eq_true hj.1
    have e2 := beq_iff_eq.1 hj.2
    subst e1; subst e2
    exact DN hE h hdo hv h1 h2 (oh hg hsl hv) fun S' fr' k' a' h' h1 h2 h3 hle' => ih (some (j', s, want', b, fr')) (fun o ho => hd o (by simp [ho])) h' ⟨hsl, h3, h1, h2⟩ (hle.step hle')
  | none =>
   rw [hg] at h
   have go : ∀ (t : Bool), (execOp a.eval o).run P k.w = .ok (.value (.bool t)) k.w → iH E ops.toList rest none ⟨uU o.dst (bV t) fr, S.H⟩ kont = some r → wpList P ops Q (o :: rest) a k.w := by
    intro t hex hk
    unfold wpList
    rw [if_pos (by unfold Region.wanted; rw [hg])]
    have D : mM P F k (execOp a.eval o) ⟨bV t, []⟩ := nK h2.hk hex (show iq F k (bV t) (.bool t) from rfl)
    refine .inl (D.wp fun v k' hh hk' hle' hv' => ?_)
    have h3 := uO h2 (U := ⟨bV t, []⟩) (v := v) hdo hh hk' hle' hv'
    exact ih none (fun o ho => hd o (by simp [ho])) hk h3 (hle.step hle')
   obtain ⟨dst, op, type, pos, after, guard⟩ := o
   dsimp only at h hg
   split at h
   ·rename_i c y
    split at h
    ·rename_i t heq
     cases hcs : Nat.beq c s with
     | false => rw [hcs] at h; cases h
     | true =>
      rw [hcs, cond_true] at h
      have e := Nat.eq_of_beq_eq_true hcs
      subst e
      refine go (b && t) ?_ h
      cases b with
      | false => simp [execOp, hv, asBool, show ∀ v, a.eval (.const v) = v from fun _ => rfl]
      | true =>
       have hs := h1 rfl
       have hr := hs.hf y
       rw [heq] at hr
       have hy := fJ (F := F) (K := k) hr
       simp [execOp, hv, asBool, hy]
    ·cases h
   ·rename_i c y
    split at h
    ·rename_i t heq
     cases hcs : Nat.beq c s with
     | false => rw [hcs] at h; cases h
     | true =>
      rw [hcs, cond_true] at h
      have e := Nat.eq_of_beq_eq_true hcs
      subst e
      refine go (b || t) ?_ h
      cases b with
      | true => simp [execOp, hv, asBool, show ∀ v, a.eval (.const v) = v from fun _ => rfl]
      | false =>
       have hs := h1 rfl
       have hr := hs.hf y
       rw [heq] at hr
       have hy := fJ (F := F) (K := k) hr
       simp [execOp, hv, asBool, hy]
    ·cases h
   ·cases h
end mem
end Go.MC
namespace Go.MC
open Go.RowKit
structure Rec where
 o : Oper
 go : Bool
 U : Upd
 R : List Nat
def Rec.W (r : Rec) : List Nat := jM r.o.dst r.U
def apL : List Rec → (Nat → Bool) → St → St
 | [], _, S => S
 | r :: rs, L, S => apL rs (fun x => L (x + 1)) (bif L 0 then app r.o.dst r.U S else S)
theorem Agree.trans {S T V : St} {key : Nat} (h : Agree S T key) (g : Agree T V key) : Agree S V key := ⟨fun i hi => (h.1 i hi).trans (g.1 i hi), fun i hi => (h.2 i hi).trans (g.2 i hi)⟩
theorem Agree.symm {S T : St} {key : Nat} (h : Agree S T key) : Agree T S key := ⟨fun i hi => (h.1 i hi).symm, fun i hi => (h.2 i hi).symm⟩
theorem xM (dst : Option Nat) (v : AV) (fr : List (Nat × AV)) (i : Nat) : lkF (uU dst v fr) i = if dst = some i then v else lkF fr i := by
 cases dst with
 | none => simp [uU]
 | some d =>
  simp only [uU, sF, Option.some.injEq]
  by_cases h : i = d
  ·subst h; simp
  ·simp [h, Ne.symm h]
theorem wO {dst : Option Nat} {U : Upd} {i : Nat} : 2 * i ∈ jM dst U ↔ dst = some i := by
 simp only [jM, List.mem_append, List.mem_map]
 constructor
 ·rintro (h | ⟨p, _, h⟩)
  ·cases dst with
   | none => simp at h
   | some d => simp at h; have : i = d := by omega
               rw [this]
  ·omega
 ·rintro rfl; simp
theorem KG {dst : Option Nat} {U : Upd} {i : Nat} : 2 * i + 1 ∈ jM dst U ↔ i ∈ U.obs.map (·.1) := by
 simp only [jM, List.mem_append, List.mem_map]
 constructor
 ·rintro (h | ⟨p, hp, h⟩)
  ·cases dst with
   | none => simp at h
   | some d => simp at h; omega
  ·exact ⟨p, hp, by omega⟩
 ·rintro ⟨p, hp, h⟩
  exact .inr ⟨p, hp, by omega⟩
theorem Ny {S T : St} {key : Nat} (dst : Option Nat) (U : Upd) (h : Agree S T key) : Agree (app dst U S) (app dst U T) key := by
 refine ⟨fun i hi => ?_, fun i hi => ?_⟩
 ·show lkF (uU _ _ _) i = lkF (uU _ _ _) i
  rw [xM, xM, h.1 i hi]
 ·show lkH (_ ++ _) i = lkH (_ ++ _) i
  rw [dK, dK, h.2 i hi]
theorem C9 {S : St} {key : Nat} {dst : Option Nat} {U : Upd} (h : key ∉ jM dst U) : Agree (app dst U S) S key := by
 refine ⟨fun i hi => ?_, fun i hi => ?_⟩
 ·show lkF (uU _ _ _) i = _
  subst hi
  rw [xM, if_neg (fun hd => h (wO.2 hd))]
 ·show lkH (_ ++ _) i = _
  subst hi
  rw [dK]
  cases ho : lkH U.obs i with
  | none => rfl
  | some o => exact absurd (KG.2 (List.mem_map.2 ⟨_, fH ho, rfl⟩)) h
theorem ajz {S T : St} {key : Nat} {dst : Option Nat} {U : Upd} (h : key ∈ jM dst U) : Agree (app dst U S) (app dst U T) key := by
 refine ⟨fun i hi => ?_, fun i hi => ?_⟩
 ·show lkF (uU _ _ _) i = lkF (uU _ _ _) i
  subst hi
  rw [xM, xM, if_pos (wO.1 h), if_pos (wO.1 h)]
 ·show lkH (_ ++ _) i = lkH (_ ++ _) i
  subst hi
  obtain ⟨o, ho⟩ := Xm (KG.1 h)
  rw [dK, dK, ho]
  rfl
theorem jB {key : Nat} : ∀ {recs : List Rec} {L L' : Nat → Bool} {S T : St}, (∀ (j : Nat) rec, recs[j]? = some rec → L j ≠ L' j → key ∉ rec.W) → Agree S T key → Agree (apL recs L S) (apL recs L' T) key
 | [], _, _, _, _, _, h => h
 | r :: rs, L, L', S, T, hd, h => by
  show Agree (apL rs (fun x => L (x + 1)) (bif L 0 then app r.o.dst r.U S else S)) (apL rs (fun x => L' (x + 1)) (bif L' 0 then app r.o.dst r.U T else T)) key
  refine jB (fun j rec hj hne => hd (j + 1) rec (by simpa using hj) hne) ?_
  have h0 := hd 0 r rfl
  cases hl : L 0 <;> cases hl' : L' 0
  ·exact h
  ·exact h.trans (C9 (h0 (by simp [hl, hl']))).symm
  ·exact (C9 (h0 (by simp [hl, hl']))).trans h
  ·exact Ny _ _ h
theorem zA : ∀ {recs : List Rec} {S : St}, apL recs (fun _ => false) S = S
 | [], _ => rfl
 | _ :: rs, _ => zA (recs := rs)
theorem Zf {key : Nat} {T : St} {rec : Rec} : ∀ {recs : List Rec} {L : Nat → Bool} {S : St} {j : Nat}, recs[j]? = some rec → L j = true → key ∈ rec.W → (∀ (j' : Nat) rec', recs[j']? = some rec' → j < j' → L j' = true → key ∉ rec'.W) → Agree (apL recs L S) (app rec.o.dst rec.U T) key
 | [], _, _, _, h, _, _, _ => by simp at h
 | r :: rs, L, S, 0, h, hl, hk, ho => by
  simp only [List.getElem?_cons_zero, Option.some.injEq] at h
  subst h
  have h1 : Agree (apL rs (fun x => L (x + 1)) (bif L 0 then app r.o.dst r.U S else S)) (apL rs (fun _ => false) (app r.o.dst r.U S)) key := by
   refine jB (fun j rec hj hne => ho (j + 1) rec (by simpa using hj) (by omega) (by simpa using hne)) ?_
   rw [hl]
   exact Agree.refl _ _
  rw [zA] at h1
  exact h1.trans (ajz hk)
 | r :: rs, L, S, j + 1, h, hl, hk, ho =>
  Zf (recs := rs) (L := fun x => L (x + 1)) (j := j) (by simpa using h) hl hk (fun j' rec' hj' hlt hl' => ho (j' + 1) rec' (by simpa using hj') (by omega) hl')
def Eqv (S T : St) : Prop := ∀ key, Agree S T key
theorem Eqv.lkF {S T : St} (h : Eqv S T) (i : Nat) : MC.lkF S.fr i = MC.lkF T.fr i := (h (2 * i)).1 i rfl
theorem Eqv.lkH {S T : St} (h : Eqv S T) : MC.lkH S.H = MC.lkH T.H := funext fun i => (h (2 * i + 1)).2 i rfl
theorem Sim.eqv {F : Fx} {k : K} {S T : St} {a : Act} {nt : Nat} (hs : Sim F k S a nt) (h : Eqv S T) : Sim F k T a nt :=
 ⟨hs.hk, hs.hS.trans h.lkH, fun t => by rw [← h.lkF t]; exact hs.hf t, hs.sz, hs.df⟩
section
variable (E : Env) (all : List Oper)
def vC (r : Rec) (S : St) : Prop :=
 (match r.o.guard with
  | none => r.go = true
  | some (j, want) => ∃ s, dW all j = some s ∧ (lkF S.fr s = bV (if r.go then want else !want) ∨ (r.go = false ∧ lkF S.fr s = .w (.one .nd))) ∧ 2 * s ∈ r.R) ∧
 (if r.go = true then ∃ Rs, bF (step E.TT E.Φ r.o) S r.U Rs ∧ ∀ key ∈ Rs, key ∈ r.R else r.U = unk)
theorem vC.move {r : Rec} {S T : St} (h : vC E all r S) (ha : ∀ key ∈ r.R, Agree S T key) : vC E all r T := by
 obtain ⟨h1, h2⟩ := h
 refine ⟨?_, ?_⟩
 ·split at h1
  ·exact h1
  ·obtain ⟨s, h3, h4, h5⟩ := h1
   exact ⟨s, h3, by rw [← (ha _ h5).1 s rfl]; exact h4, h5⟩
 ·split at h2
  ·rename_i hg
   rw [if_pos hg]
   obtain ⟨Rs, h3, h4⟩ := h2
   exact ⟨Rs, fun V hV => h3 V fun key hk => (ha key (h4 key hk)).trans (hV key hk), h4⟩
  ·rename_i hg
   rw [if_neg hg]
   exact h2
theorem xx {S : St} {i : Nat} {b : Bool} (h : lkF S.fr i = bV b) : Eqv (Hg S i (bV b)) S := by
 intro key
 refine ⟨fun t _ => ?_, fun _ _ => rfl⟩
 show lkF ((i, bV b) :: S.fr) t = _
 rw [sF]
 split
 ·rename_i ht; subst ht; exact h.symm
 ·rfl
theorem zt {ρ : Type} {r : ρ} {kont : St → Option ρ} {ms : List Nat} : ∀ {rest : List Oper} {i : Nat} {acc : List (Nat × List Nat × List Nat)} {S : St}, l7 E all ms i rest acc S kont = some r →
 ∃ recs Sn, recs.map Rec.o = rest ∧ kont Sn = some r ∧ Eqv (apL recs (fun _ => true) S) Sn ∧
   (∀ (j : Nat) rec, recs[j]? = some rec → vC E all rec (apL recs (fun x => decide (x < j)) S)) ∧
   (∀ (j : Nat) rec, recs[j]? = some rec → (∀ p ∈ acc, fV (ms.getD (i + j) 0) rec.R rec.W p = true) ∧ ∀ (j' : Nat) rec', j' < j → recs[j']? = some rec' → fV (ms.getD (i + j) 0) rec.R rec.W (i + j', rec'.R, rec'.W) = true)
 | [], i, acc, S, h => ⟨[], S, rfl, h, fun _ => Agree.refl _ _, fun j rec hj => by simp at hj, fun j rec hj => by simp at hj⟩
 | o :: rest, i, acc, S, h => by
  have key : ∀ {S' : St} (rec : Rec), Eqv S S' → rec.o = o → vC E all rec S → acc.all (fV (ms.getD i 0) rec.R rec.W) = true →
   l7 E all ms (i + 1) rest ((i, rec.R, rec.W) :: acc) (app rec.o.dst rec.U S') kont = some r → ∃ recs Sn, recs.map Rec.o = (o :: rest) ∧ kont Sn = some r ∧ Eqv (apL recs (fun _ => true) S) Sn ∧
   (∀ (j : Nat) rec, recs[j]? = some rec → vC E all rec (apL recs (fun x => decide (x < j)) S)) ∧
   (∀ (j : Nat) rec, recs[j]? = some rec → (∀ p ∈ acc, fV (ms.getD (i + j) 0) rec.R rec.W p = true) ∧ ∀ (j' : Nat) rec', j' < j → recs[j']? = some rec' → fV (ms.getD (i + j) 0) rec.R rec.W (i + j', rec'.R, rec'.W) = true) := by
   intro S' rec he ho hrec hacc h
   obtain ⟨recs, Sn, h1, h2, h3, h4, h5⟩ := zt h
   have heq : Eqv (app rec.o.dst rec.U S) (app rec.o.dst rec.U S') := fun key => Ny _ _ (he key)
   refine ⟨rec :: recs, Sn, by simp [h1, ho], h2, fun key => ?_, fun j rec' hj => ?_, fun j rec' hj => ?_⟩
   ·exact (jB (fun _ _ _ hne => absurd rfl hne) (heq key)).trans (h3 key)
   ·cases j with
    | zero =>
     simp only [List.getElem?_cons_zero, Option.some.injEq] at hj
     subst hj
     have : apL (rec :: recs) (fun x => decide (x < 0)) S = S := by
      have e : (fun x => decide (x < 0)) = fun _ : Nat => false := by funext x; simp
      rw [e, zA]
     rw [this]
     exact hrec
    | succ j =>
     have h6 := h4 j rec' (by simpa using hj)
     have e : (fun x => decide (x + 1 < j + 1)) = fun x => decide (x < j) := by funext x; simp
     show vC E all rec' (apL recs (fun x => decide (x + 1 < j + 1)) _)
     rw [e]
     exact h6.move E all fun key _ => jB (fun _ _ _ hne => absurd rfl hne) (heq key).symm
   ·cases j with
    | zero =>
     simp only [List.getElem?_cons_zero, Option.some.injEq] at hj
     subst hj
     exact ⟨fun p hp => List.all_eq_true.1 hacc p hp, fun j' _ hlt _ => by omega⟩
    | succ j =>
     obtain ⟨h6, h7⟩ := h5 j rec' (by simpa using hj)
     have e : i + 1 + j = i + (j + 1) := by omega
     rw [e] at h6 h7
     refine ⟨fun p hp => h6 p (by simp [hp]), fun j' rec2 hlt hj' => ?_⟩
     cases j' with
     | zero =>
      simp only [List.getElem?_cons_zero, Option.some.injEq] at hj'
      subst hj'
      exact h6 _ (by simp)
     | succ j' =>
      have := h7 j' rec2 (by omega) (by simpa using hj')
      rwa [show i + 1 + j' = i + (j' + 1) by omega] at this
  have go : ∀ {S' : St} {L : List Nat}, Eqv S S' → (match o.guard with
   | none => True
   | some (j, want) => ∃ s, dW all j = some s ∧ lkF S.fr s = bV want ∧ 2 * s ∈ L) → (step E.TT E.Φ o ρ S' L fun U R =>
   bif acc.all (fV (ms.getD i 0) R (jM o.dst U)) then l7 E all ms (i + 1) rest ((i, R, jM o.dst U) :: acc) (app o.dst U S') kont else none) = some r → ∃ recs Sn, recs.map Rec.o = (o :: rest) ∧ kont Sn = some r ∧ Eqv (apL recs (fun _ => true) S) Sn ∧
   (∀ (j : Nat) rec, recs[j]? = some rec → vC E all rec (apL recs (fun x => decide (x < j)) S)) ∧
   (∀ (j : Nat) rec, recs[j]? = some rec → (∀ p ∈ acc, fV (ms.getD (i + j) 0) rec.R rec.W p = true) ∧ ∀ (j' : Nat) rec', j' < j → recs[j']? = some rec' → fV (ms.getD (i + j) 0) rec.R rec.W (i + j', rec'.R, rec'.W) = true) := by
   intro S' L he hg h
   obtain ⟨U, Rs, ht, hr⟩ := (good_step E.TT E.Φ o).tells h
   cases hacc : acc.all (fV (ms.getD i 0) (Rs ++ L) (jM o.dst U)) with
   | false => rw [hacc] at hr; cases hr
   | true =>
    rw [hacc] at hr
    refine key ⟨o, true, U, Rs ++ L⟩ he rfl ⟨?_, ?_⟩ hacc hr
    ·dsimp only
     cases hgu : o.guard with
     | none => rfl
     | some gw =>
      rw [hgu] at hg
      obtain ⟨s, h1, h2, h3⟩ := hg
      exact ⟨s, h1, .inl (by simpa using h2), List.mem_append.2 (.inr h3)⟩
    ·rw [if_pos rfl]
     exact ⟨Rs, fun V hV => ht V fun key hk => ((he key).symm).trans (hV key hk), fun key hk => List.mem_append.2 (.inl hk)⟩
  have skip : ∀ {S' : St} {j s : Nat} {want : Bool}, Eqv S S' → o.guard = some (j, want) → dW all j = some s → (lkF S.fr s = bV (!want) ∨ lkF S.fr s = .w (.one .nd)) →
   (bif acc.all (fV (ms.getD i 0) [2 * s] (jM o.dst unk)) then l7 E all ms (i + 1) rest ((i, [2 * s], jM o.dst unk) :: acc) (app o.dst unk S') kont else none) = some r → ∃ recs Sn, recs.map Rec.o = (o :: rest) ∧ kont Sn = some r ∧ Eqv (apL recs (fun _ => true) S) Sn ∧
   (∀ (j : Nat) rec, recs[j]? = some rec → vC E all rec (apL recs (fun x => decide (x < j)) S)) ∧
   (∀ (j : Nat) rec, recs[j]? = some rec → (∀ p ∈ acc, fV (ms.getD (i + j) 0) rec.R rec.W p = true) ∧ ∀ (j' : Nat) rec', j' < j → recs[j']? = some rec' → fV (ms.getD (i + j) 0) rec.R rec.W (i + j', rec'.R, rec'.W) = true) := by
   intro S' j s want he hg hsl hv h
   cases hacc : acc.all (fV (ms.getD i 0) [2 * s] (jM o.dst unk)) with
   | false => rw [hacc] at h; cases h
   | true =>
    rw [hacc] at h
    refine key ⟨o, false, unk, [2 * s]⟩ he rfl ⟨?_, ?_⟩ hacc h
    ·dsimp only
     rw [hg]
     exact ⟨s, hsl, hv.elim (fun h => .inl (by simpa using h)) (fun h => .inr ⟨rfl, h⟩), by simp⟩
    ·rw [if_neg (by simp)]
  unfold l7 at h
  cases hg : o.guard with
  | none =>
   rw [hg] at h
   exact go (fun _ => Agree.refl _ _) (by rw [hg]; trivial) h
  | some gw =>
   obtain ⟨j, want⟩ := gw
   rw [hg] at h
   dsimp only at h
   cases hsl : dW all j with
   | none => rw [hsl] at h; cases h
   | some s =>
    rw [hsl] at h
    dsimp only at h
    cases want with
    | true =>
     simp only [cond_true, mF] at h
     split at h
     ·rename_i b heq
      cases b with
      | true => exact go (fun key => (xx heq key).symm) (by rw [hg]; exact ⟨s, hsl, heq, by simp⟩) h
      | false => exact skip (fun key => (xx heq key).symm) hg hsl (.inl heq) h
     ·rename_i heq
      exact skip (fun _ => Agree.refl _ _) hg hsl (.inr heq) h
     ·cases h
    | false =>
     simp only [cond_false, mF] at h
     split at h
     ·rename_i b heq
      cases b with
      | true => exact skip (fun key => (xx heq key).symm) hg hsl (.inl heq) h
      | false => exact go (fun key => (xx heq key).symm) (by rw [hg]; exact ⟨s, hsl, heq, by simp⟩) h
     ·rename_i heq
      exact skip (fun _ => Agree.refl _ _) hg hsl (.inr heq) h
     ·cases h
end
end Go.MC
namespace Go.MC
open Go.RowKit
theorem xB {i : Nat} : ∀ {l : List Nat}, Vz i l = true ↔ i ∈ l
 | [] => by simp [Vz]
 | j :: l => by
  simp only [Vz, Bool.or_eq_true, List.mem_cons, xB (l := l)]
  constructor
  ·rintro (h | h)
   ·exact .inl (Nat.eq_of_beq_eq_true h).symm
   ·exact .inr h
  ·rintro (rfl | h)
   ·exact .inl (Nat.beq_refl _)
   ·exact .inr h
theorem nP {m : List Nat} : ∀ {l : List Nat} {x : Nat}, DR l m = true → x ∈ l → x ∉ m
 | [], _, _, h => by simp at h
 | i :: l, x, h, hx => by
  simp only [DR, Bool.and_eq_true, Bool.not_eq_true'] at h
  rcases List.mem_cons.1 hx with rfl | hx
  ·intro hm
   rw [xB.2 hm] at h
   cases h.1
  ·exact nP h.2 hx
theorem kW {m : List Nat} : ∀ {l : List Nat} {x : Nat}, NG l m = true → x ∈ l → x ∈ m
 | [], _, _, h => by simp at h
 | i :: l, x, h, hx => by
  simp only [NG, Bool.and_eq_true] at h
  rcases List.mem_cons.1 hx with rfl | hx
  ·exact xB.1 h.1
  ·exact kW h.2 hx
theorem kG : ∀ {l : List Nat}, oI l = true → l.Nodup
 | [], _ => List.nodup_nil
 | i :: l, h => by
  simp only [oI, Bool.and_eq_true, Bool.not_eq_true'] at h
  refine List.nodup_cons.2 ⟨fun hm => ?_, kG h.2⟩
  rw [xB.2 hm] at h
  cases h.1
def P9 : Nat → List Oper → Bool
 | _, [] => true
 | i, o :: os => (o.after.toList.all fun e => !Region.binds .any e || Nat.blt e.on i) && P9 (i + 1) os
theorem y8 : ∀ {os : List Oper} {i : Nat}, P9 i os = true → ∀ (j : Nat) (o : Oper), os[j]? = some o → ∀ e ∈ o.after, Region.binds .any e = true → e.on < i + j
 | [], _, _, j, o, hj, _, _, _ => by simp at hj
 | p :: os, i, h, j, o, hj, e, he, hb => by
  simp only [P9, Bool.and_eq_true, List.all_eq_true] at h
  cases j with
  | zero =>
   simp only [List.getElem?_cons_zero, Option.some.injEq] at hj
   subst hj
   have := h.1 e (by simpa using he)
   simpa [hb, Nat.blt_eq] using this
  | succ j =>
   have := y8 h.2 j o (by simpa using hj) e he hb
   omega
theorem Ue {ms : List Nat} {o : Oper} {j : Nat} (h : (r_ ms o).testBit j = true) : ∃ e ∈ o.after, Region.binds .any e = true ∧ (e.on = j ∨ (ms.getD e.on 0).testBit j = true) := by
 have key : ∀ (l : List Edge) (m : Nat), (l.foldl (fun m e => bif Region.binds .any e then m ||| (1 <<< e.on) ||| ms.getD e.on 0 else m) m).testBit j = true → m.testBit j = true ∨ ∃ e ∈ l, Region.binds .any e = true ∧ (e.on = j ∨ (ms.getD e.on 0).testBit j = true) := by
  intro l
  induction l with
  | nil => exact fun m h => .inl h
  | cons e l ih =>
   intro m h
   rw [List.foldl_cons] at h
   rcases ih _ h with h1 | ⟨e', h1, h2⟩
   ·cases hb : Region.binds .any e with
    | false => rw [hb] at h1; exact .inl (by simpa using h1)
    | true =>
     rw [hb] at h1
     simp only [cond_true, Nat.testBit_or, Bool.or_eq_true, Nat.shiftLeft_eq, Nat.one_mul, Nat.testBit_two_pow, decide_eq_true_eq] at h1
     rcases h1 with (h1 | h1) | h1
     ·exact .inl h1
     ·exact .inr ⟨e, by simp, hb, .inl h1⟩
     ·exact .inr ⟨e, by simp, hb, .inr h1⟩
   ·exact .inr ⟨e', by simp [h1], h2⟩
 rcases key o.after.toList 0 h with h1 | ⟨e, h1, h2⟩
 ·simp at h1
 ·exact ⟨e, by simpa using h1, h2⟩
theorem Nr : ∀ (os : List Oper) (ms : List Nat), (masks os ms).take ms.length = ms ∧ ∀ (i : Nat) (o : Oper), os[i]? = some o → (masks os ms).getD (ms.length + i) 0 = r_ ((masks os ms).take (ms.length + i)) o
 | [], ms => ⟨by simp [masks], fun i o h => by simp at h⟩
 | p :: os, ms => by
  obtain ⟨h1, h2⟩ := Nr os (ms ++ [r_ ms p])
  simp only [List.length_append, List.length_cons, List.length_nil, Nat.zero_add] at h1 h2
  have h3 : (masks (p :: os) ms).take ms.length = ms := by
   show (masks os (ms ++ [r_ ms p])).take ms.length = ms
   have := congrArg (List.take ms.length) h1
   rw [List.take_take, Nat.min_eq_left (by omega)] at this
   simpa using this
  refine ⟨h3, fun i o hi => ?_⟩
  cases i with
  | zero =>
   simp only [List.getElem?_cons_zero, Option.some.injEq] at hi
   subst hi
   rw [Nat.add_zero, h3]
   show (masks os (ms ++ [r_ ms p])).getD ms.length 0 = _
   have h4 : ((masks os (ms ++ [r_ ms p])).take (ms.length + 1))[ms.length]? = some (r_ ms p) := by rw [h1]; simp
   rw [List.getElem?_take_of_lt (by omega)] at h4
   simp [h4]
  | succ i =>
   have := h2 i o (by simpa using hi)
   rw [show ms.length + (i + 1) = ms.length + 1 + i by omega]
   exact this
theorem Qp {os : List Oper} {i j : Nat} {o : Oper} (ho : os[i]? = some o) (h : ((masks os []).getD i 0).testBit j = true) : ∃ e ∈ o.after, Region.binds .any e = true ∧ (e.on = j ∨ ((masks os []).getD e.on 0).testBit j = true) := by
 have := (Nr os []).2 i o ho
 simp only [List.length_nil, Nat.zero_add] at this
 rw [this] at h
 obtain ⟨e, h1, h2, h3⟩ := Ue h
 refine ⟨e, h1, h2, h3.imp id fun h3 => ?_⟩
 by_cases hlt : e.on < i
 ·rw [List.getD_eq_getElem?_getD, List.getElem?_take_of_lt hlt] at h3
  rw [List.getD_eq_getElem?_getD]
  exact h3
 ·rw [List.getD_eq_getElem?_getD, List.getElem?_take] at h3
  simp [hlt] at h3
theorem Gj : ∀ (l : List Bool) (i : Nat), l[i]? = some false → ((l.set i true).filter (!·)).length + 1 = (l.filter (!·)).length
 | [], i, h => by simp at h
 | b :: l, 0, h => by
  simp only [List.getElem?_cons_zero, Option.some.injEq] at h
  subst h
  simp
 | b :: l, i + 1, h => by
  have := Gj l i (by simpa using h)
  simp only [List.set_cons_succ, List.filter_cons]
  split <;> simp_all
section mem
variable {P : Program}
theorem aj_ {E : Env} (hE : II P E) {ρ : Type} {r : ρ} {ops : Array Oper} {F : Fx} {G : Nat → Prop} {k0 : K} {nt : Nat} {Q : Exit → Act → World → Prop} {kont : St → Option ρ}
 (hQ : ∀ S' k' a', kont S' = some r → Sim F k' S' a' nt → d_ F G k0 k' → Q .normal a' k'.w)
 {recs : List Rec} {S0 Sn : St} (hmap : recs.map Rec.o = ops.toList) (hk : kont Sn = some r) (hSn : Eqv (apL recs (fun _ => true) S0) Sn)
 (hrec : ∀ (j : Nat) rec, recs[j]? = some rec → vC E ops.toList rec (apL recs (fun x => decide (x < j)) S0))
 (hok : ∀ (j : Nat) rec, recs[j]? = some rec → ∀ (j' : Nat) rec', j' < j → recs[j']? = some rec' → fV ((masks ops.toList []).getD j 0) rec.R rec.W (j', rec'.R, rec'.W) = true)
 (hdeps : P9 0 ops.toList = true) (hd : ∀ o ∈ ops.toList, IP nt o.dst = true) :
 ∀ (fuel : Nat) (listed : Array Bool) (k : K) (a : Act), listed.size = ops.size → (listed.toList.filter (!·)).length ≤ fuel →
   (∀ (i : Nat) (o : Oper), ops[i]? = some o → listed.getD i false = true → ∀ e ∈ o.after, Region.binds .any e = true → listed.getD e.on false = true) →
   Sim F k (apL recs (fun j => listed.getD j false) S0) a nt → d_ F G k0 k → wpAny P .any ops Q fuel listed a k.w := by
 have hlen : recs.length = ops.size := by
  have := congrArg List.length hmap
  simpa using this
 have hget : ∀ (j : Nat) (o : Oper), ops[j]? = some o → ∃ rec, recs[j]? = some rec ∧ rec.o = o := by
  intro j o hj
  have h1 : (recs.map Rec.o)[j]? = some o := by rw [hmap]; simpa using hj
  rw [List.getElem?_map, Option.map_eq_some_iff] at h1
  exact h1
 -- all are done
 have fin : ∀ {listed : Array Bool} {k : K} {a : Act}, (∀ j, j < ops.size → listed.getD j false = true) → Sim F k (apL recs (fun j => listed.getD j false) S0) a nt → d_ F G k0 k → Q .normal a k.w := by
  intro listed k a hall hs hle
  refine hQ Sn k a hk (hs.eqv fun key => ?_) hle
  refine (jB (fun j rec hj hne => ?_) (Agree.refl _ _)).trans (hSn key)
  exact absurd (hall j (by rw [← hlen]; exact (List.getElem?_eq_some_iff.1 hj).1)) hne
 have noReady : ∀ {listed : Array Bool}, listed.size = ops.size → Region.ready .any ops listed = [] → ∀ j, j < ops.size → listed.getD j false = true := by
  intro listed hsz hr j
  induction j using Nat.strongRecOn with
  | _ j ih =>
   intro hj
   cases hl : listed.getD j false with
   | true => rfl
   | false =>
    have hmem : j ∈ Region.ready .any ops listed := by
     rw [mem_ready]
     refine ⟨?_, ops[j], by simp [hj], fun e he hb => ?_⟩
     ·simpa [hsz, hj] using hl
     ·have := y8 hdeps j ops[j] (by simp [hj]) e he hb
      exact ih e.on (by omega) (by omega)
    rw [hr] at hmem
    cases hmem
 intro fuel
 induction fuel with
 | zero =>
  intro listed k a hsz hf hcl hs hle
  have hall : ∀ j, j < ops.size → listed.getD j false = true := by
   intro j hj
   have h0 : listed.toList.filter (!·) = [] := List.eq_nil_of_length_eq_zero (by omega)
   cases hl : listed.getD j false with
   | true => rfl
   | false =>
    have hm : false ∈ listed.toList.filter (!·) := List.mem_filter.2 ⟨by
     have : listed[j]? = some false := by
      simp [hsz, hj] at hl ⊢
      exact hl
     exact Array.mem_toList_iff.2 (Array.mem_of_getElem? this), rfl⟩
    rw [h0] at hm
    cases hm
  refine ⟨?_, fin hall hs hle⟩
  cases hr : Region.ready .any ops listed with
  | nil => rfl
  | cons i l =>
   have hi : i ∈ Region.ready .any ops listed := by rw [hr]; simp
   obtain ⟨h1, o, h2, _⟩ := mem_ready.1 hi
   have hlt : i < ops.size := (Array.getElem?_eq_some_iff.1 h2).1
   have := hall i hlt
   simp [hsz, hlt] at h1 this
   rw [h1] at this
   cases this
 | succ fuel ih =>
  intro listed k a hsz hf hcl hs hle
  refine ⟨fun hr => fin (noReady hsz hr) hs hle, fun i hi => ?_⟩
  obtain ⟨hun, o, ho, hdep⟩ := mem_ready.1 hi
  have hlt : i < ops.size := (Array.getElem?_eq_some_iff.1 ho).1
  have hunF : listed.getD i false = false := by simpa [hsz, hlt] using hun
  obtain ⟨rec, hrc, rfl⟩ := hget i o ho
  have ho' : ops.toList[i]? = some rec.o := by simpa using ho
  -- what must come before a listed one is listed
  have closed : ∀ (n : Nat) (j : Nat), listed.getD n false = true → n < ops.size → ((masks ops.toList []).getD n 0).testBit j = true → listed.getD j false = true := by
   intro n
   induction n using Nat.strongRecOn with
   | _ n ihn =>
    intro j hn hnl hb
    have hon : ops[n]? = some ops[n] := by simp [hnl]
    obtain ⟨e, h1, h2, h3⟩ := Qp (os := ops.toList) (o := ops[n]) (by simp [hnl]) hb
    have h4 := hcl n _ hon hn e h1 h2
    rcases h3 with rfl | h3
    ·exact h4
    ·have h5 := y8 hdeps n ops[n] (by simp [hnl]) e h1 h2
     exact ihn e.on (by omega) j h4 (by omega) h3
  have closedI : ∀ j, ((masks ops.toList []).getD i 0).testBit j = true → listed.getD j false = true := by
   intro j hb
   obtain ⟨e, h1, h2, h3⟩ := Qp ho' hb
   have h4 := hdep e h1 h2
   rcases h3 with rfl | h3
   ·exact h4
   ·have h5 := y8 hdeps i rec.o ho' e h1 h2
    exact closed e.on j h4 (by omega) h3
  have ltOf : ∀ {j : Nat} {rec' : Rec}, recs[j]? = some rec' → j < ops.size := fun h => by rw [← hlen]; exact (List.getElem?_eq_some_iff.1 h).1
  -- what it reads is as in text order
  have hagree : ∀ key ∈ rec.R, Agree (apL recs (fun x => decide (x < i)) S0) (apL recs (fun j => listed.getD j false) S0) key := by
   intro key hkey
   refine jB (fun j rec' hj hne => ?_) (Agree.refl _ _)
   by_cases hji : j < i
   ·have hl : listed.getD j false = false := by
     cases h : listed.getD j false with
     | false => rfl
     | true => simp [hji, h] at hne
    have := hok i rec hrc j rec' hji hj
    simp only [fV, Bool.or_eq_true, Bool.and_eq_true] at this
    rcases this with h | ⟨⟨h, _⟩, _⟩
    ·rw [closedI j h] at hl; cases hl
    ·exact fun hm => nP h hm hkey
   ·have hl : listed.getD j false = true := by
     cases h : listed.getD j false with
     | true => rfl
     | false => simp [hji, h] at hne
    have hij : i < j := by
     rcases Nat.lt_or_ge i j with h | h
     ·exact h
     ·have : i = j := by omega
      subst this
      rw [hunF] at hl; cases hl
    have := hok j rec' hj i rec hij hrc
    simp only [fV, Bool.or_eq_true, Bool.and_eq_true] at this
    rcases this with h | ⟨_, h⟩
    ·have := closed j i hl (ltOf hj) h
     rw [hunF] at this; cases this
    ·exact nP h hkey
  have hR := (hrec i rec hrc).move E ops.toList hagree
  -- behind it
  have hsz' : (listed.setIfInBounds i true).size = ops.size := by simpa using hsz
  have hself : (listed.setIfInBounds i true).getD i false = true := by simp [hsz, hlt]
  have hother : ∀ j, j ≠ i → (listed.setIfInBounds i true).getD j false = listed.getD j false := fun j hj => getD_set_ne false (Ne.symm hj)
  have heqv : Eqv (app rec.o.dst rec.U (apL recs (fun j => listed.getD j false) S0)) (apL recs (fun j => (listed.setIfInBounds i true).getD j false) S0) := by
   intro key
   by_cases hkey : key ∈ rec.W
   ·refine Agree.symm (Zf hrc hself hkey fun j' rec' hj' hlt' hl' hm => ?_)
    rw [hother j' (by omega)] at hl'
    have := hok j' rec' hj' i rec hlt' hrc
    simp only [fV, Bool.or_eq_true, Bool.and_eq_true] at this
    rcases this with h | ⟨⟨_, h⟩, _⟩
    ·have := closed j' i hl' (ltOf hj') h
     rw [hunF] at this; cases this
    ·exact nP h hkey hm
   ·refine (C9 hkey).trans (jB (fun j rec' hj hne => ?_) (Agree.refl _ _))
    by_cases hji : j = i
    ·subst hji
     rw [hrc] at hj
     cases hj
     exact hkey
    ·exact absurd (hother j hji).symm hne
  have hcl' : ∀ (n : Nat) (o : Oper), ops[n]? = some o → (listed.setIfInBounds i true).getD n false = true → ∀ e ∈ o.after, Region.binds .any e = true → (listed.setIfInBounds i true).getD e.on false = true := by
   intro n o' hn hl e he hb
   by_cases hni : n = i
   ·subst hni
    rw [ho] at hn
    cases hn
    exact getD_set_true (hdep e he hb)
   ·rw [hother n hni] at hl
    exact getD_set_true (hcl n o' hn hl e he hb)
  have hf' : ((listed.setIfInBounds i true).toList.filter (!·)).length ≤ fuel := by
   have h1 := Gj listed.toList i (by
    have : listed[i]? = some false := by
     simp [hsz, hlt] at hunF ⊢
     exact hunF
    simpa using this)
   rw [Array.toList_setIfInBounds]
   omega
  have next : ∀ k' a', Sim F k' (app rec.o.dst rec.U (apL recs (fun j => listed.getD j false) S0)) a' nt → Le F k k' → wpAny P .any ops Q fuel (listed.setIfInBounds i true) a' k'.w :=
   fun k' a' hs' hle' => ih _ k' a' hsz' hf' hcl' (hs'.eqv heqv) (hle.step hle')
  have hdo := hd rec.o (List.mem_of_getElem? ho')
  unfold wpOp
  simp only [ho]
  obtain ⟨hg, hgo⟩ := hR
  have wanted : Region.wanted rec.o (yielded ops a.tmps) = rec.go := by
   cases hgu : rec.o.guard with
   | none =>
    rw [hgu] at hg
    rw [show rec.go = true from hg]
    unfold Region.wanted
    rw [hgu]
   | some gw =>
    obtain ⟨j, want⟩ := gw
    rw [hgu] at hg
    obtain ⟨s, h1, h2, _⟩ := hg
    have h3 := hs.hf s
    rcases h2 with h2 | ⟨h4, h2⟩
    ·rw [h2] at h3
     rw [oh hgu h1 (fJ (F := F) (K := k) h3)]
     cases rec.go <;> cases want <;> rfl
    ·rw [h2] at h3
     rw [h4]
     exact pg hgu h1 h3
  rw [wanted]
  cases hgo' : rec.go with
  | true =>
   rw [if_pos rfl]
   rw [if_pos hgo'] at hgo
   obtain ⟨Rs, ht, _⟩ := hgo
   exact .inl ((vU hs.hk hs.hS hs.hf hE.TT hE.Φ ht).wp fun v k' hh hk' hle' hv => next k' _ (uO hs hdo hh hk' hle' hv) hle')
  | false =>
   rw [if_neg (by simp)]
   rw [if_neg (by rw [hgo']; simp)] at hgo
   exact next k _ (by rw [hgo]; exact SH hs hdo) (Le.refl F k)
end mem
end Go.MC
namespace Go.MC
open Go.RowKit
theorem d_.rd {F : Fx} {G : Nat → Prop} {k k' : K} (h : d_ F G k k') {t : Ty} {x : t.den} {vs : List Value} (hr : Rd k.w (k.ok F) t x vs) : Rd k'.w (k'.ok F) t x vs := hr.mono h.ok h.hp
theorem d_.rdRows {F : Fx} {G : Nat → Prop} {k k' : K} (h : d_ F G k k') {r : Ty} {xs : List r.den} {vs : List Value} (hr : bu k.w (k.ok F) r xs vs) : bu k'.w (k'.ok F) r xs vs := hr.mono h.ok h.hp
theorem d_.c {F : Fx} {G : Nat → Prop} {k k' : K} (h : d_ F G k k') : ∀ {c : C} {v : Value}, (∀ id ∈ c.refs, G id) → dS F k c v → dS F k' c v
 | .u, _, _, _ => trivial
 | .nd, _, _, hr => hr
 | .v t x, _, _, hr => h.rd hr
 | .emp, _, _, hr => hr
 | .mt, _, _, hr => hr
 | .arr id, v, hG, hr => by
  have hG := hG id (by simp [C.refs])
  simp only [dS] at hr ⊢
  obtain ⟨hsl, hr⟩ := hr
  refine ⟨hsl, ?_⟩
  split at hr
  ·rename_i e r xs d he
   rcases h.arr id hG e r xs d he with ⟨xs', d', h1, _, h2⟩ | ⟨r', xs', h1, h2⟩ | h1
   ·rw [h1]; exact hr.trans h2.symm
   ·rw [h1]; exact hr.trans h2.symm
   ·rw [h1]; trivial
  ·rename_i r xs he
   obtain ⟨r', xs', h1, h2⟩ := h.imm id hG r xs he
   rw [h1]; exact hr.trans h2.symm
  ·rename_i he
   rw [h.gone id hG he]; trivial
  ·exact hr.elim
 | .pd t x, v, _, hr => by
  obtain ⟨ad, vs, hv, hok, hrd, hc⟩ := hr
  refine ⟨ad, vs, hv, h.ok _ hok, h.rd hrd, ?_⟩
  cases vs with
  | nil => intro i v hi; simp at hi
  | cons v0 vs =>
   have h0 := hc 0 v0 rfl
   have hlt := World.block_lt_of_cell? k.w _ h0
   rw [add_block] at hlt
   exact hc.mono (h.hp _ hok hlt)
 | .pb id off, v, hG, hr => by
  obtain ⟨⟨cs, hc⟩, hv⟩ := hr
  obtain ⟨h1, h2⟩ := h.box id (hG id (by simp [C.refs])) cs hc
  exact ⟨h1, by rw [h2]; exact hv⟩
 | .pa id j p, v, hG, hr => by
  have hG := hG id (by simp [C.refs])
  simp only [dS] at hr ⊢
  obtain ⟨hsl, hr⟩ := hr
  refine ⟨hsl, ?_⟩
  cases ho : k.h id with
  | none => rw [ho] at hr; exact hr.elim
  | some o =>
   rw [ho] at hr
   cases o with
   | box cs => obtain ⟨⟨cs', h1⟩, _⟩ := h.box id hG cs ho; rw [h1]; trivial
   | arr e r xs d =>
    rcases h.arr id hG e r xs d ho with ⟨xs', d', h1, h3, h2⟩ | ⟨r', xs', h1, h2⟩ | h1
    ·rw [h1]
     show 0 ≤ j ∧ j < (xs'.length : Int) ∧ _
     rw [h3, h2]
     exact hr
    ·rw [h1]; trivial
    ·rw [h1]; trivial
   | imm r xs => obtain ⟨_, _, h1, _⟩ := h.imm id hG r xs ho; rw [h1]; trivial
   | gone => rw [h.gone id hG ho]; trivial
 | .fn g caps, v, hG, hr => by
  obtain ⟨hc, hv⟩ := hr
  refine ⟨fun id hi => ?_, ?_⟩
  ·obtain ⟨cs, h1⟩ := hc id hi
   exact (h.box id (hG id (by simpa [C.refs] using hi)) cs h1).1
  ·rw [hv]
   congr 2
   refine List.map_congr_left fun id hi => ?_
   obtain ⟨cs, h1⟩ := hc id hi
   rw [(h.box id (hG id (by simpa [C.refs] using hi)) cs h1).2]
theorem d_.cs {F : Fx} {G : Nat → Prop} {k k' : K} (h : d_ F G k k') : ∀ {cs : List C} {vs : List Value}, (∀ id ∈ cs.flatMap C.refs, G id) → bK F k cs vs → bK F k' cs vs
 | [], _, _, hr => hr
 | c :: cs, _, hG, hr => by
  obtain ⟨v, vs', hv, h1, h2⟩ := hr
  exact ⟨v, vs', hv, h.c (fun id hi => hG id (by simp [hi])) h1, h.cs (fun id hi => hG id (by simp only [List.flatMap_cons, List.mem_append]; exact .inr hi)) h2⟩
theorem d_.v {F : Fx} {G : Nat → Prop} {k k' : K} (h : d_ F G k k') : ∀ {c : V1} {v : Value}, (∀ id ∈ c.refs, G id) → su F k c v → su F k' c v
 | .one c, _, hG, hr => h.c (c := c) (fun id hi => hG id (by simpa [V1.refs, V1.cells] using hi)) hr
 | .agg cs, _, hG, hr => by
  obtain ⟨vs, hv, h1⟩ := hr
  exact ⟨vs, hv, h.cs hG h1⟩
theorem d_.vs {F : Fx} {G : Nat → Prop} {k k' : K} (h : d_ F G k k') : ∀ {cs : List V1} {vs : List Value}, (∀ id ∈ cs.flatMap V1.refs, G id) → fQ F k cs vs → fQ F k' cs vs
 | [], _, _, hr => hr
 | c :: cs, _, hG, hr => by
  obtain ⟨v, vs', hv, h1, h2⟩ := hr
  exact ⟨v, vs', hv, h.v (fun id hi => hG id (by simp only [List.flatMap_cons, List.mem_append]; exact .inl hi)) h1, h.vs (fun id hi => hG id (by simp only [List.flatMap_cons, List.mem_append]; exact .inr hi)) h2⟩
theorem d_.av {F : Fx} {G : Nat → Prop} {k k' : K} (h : d_ F G k k') : ∀ {c : AV} {v : Value}, (∀ id ∈ c.refs, G id) → iq F k c v → iq F k' c v
 | .w v, _, hG, hr => h.v (c := v) hG hr
 | .tup vs, _, hG, hr => by
  obtain ⟨xs, hv, h1⟩ := hr
  exact ⟨xs, hv, h.vs hG h1⟩
structure New where
 n : Nat
 ob : Ob
 v : Value
 src : Option Nat
def New.ok (k : K) (x : New) : Prop := ∃ e r xs d, x.ob = .arr e r xs d ∧ d.rd = true ∧ match x.src with
 | none => xs = [] ∧ ∃ a, x.v = .slice a 0 0
 | some s => (∃ d0, k.h s = some (.arr e r xs d0) ∧ d0.rd = true ∧ (d = d0 ∨ d = .no)) ∧ x.v = k.ν s ∧ bP s = false
structure Kept (F : Fx) (G : Nat → Prop) (k k' : K) (news : List New) (frz : List Nat) : Prop where
 le : d_ F G k k'
 w : k'.w = k.w
 new : ∀ x ∈ news, k'.h x.n = some x.ob ∧ k'.ν x.n = x.v
 frz : ∀ s ∈ frz, ∀ b, k.own s b → k'.ok F b
theorem Kept.left {F : Fx} {G : Nat → Prop} {k k' : K} {n1 n2 : List New} {f1 f2 : List Nat} (h : Kept F G k k' (n1 ++ n2) (f1 ++ f2)) : Kept F G k k' n1 f1 :=
 ⟨h.le, h.w, fun x hx => h.new x (List.mem_append.2 (.inl hx)), fun s hs => h.frz s (List.mem_append.2 (.inl hs))⟩
theorem Kept.right {F : Fx} {G : Nat → Prop} {k k' : K} {n1 n2 : List New} {f1 f2 : List Nat} (h : Kept F G k k' (n1 ++ n2) (f1 ++ f2)) : Kept F G k k' n2 f2 :=
 ⟨h.le, h.w, fun x hx => h.new x (List.mem_append.2 (.inr hx)), fun s hs => h.frz s (List.mem_append.2 (.inr hs))⟩
def fE (F : Fx) (k : K) (ids taken : List Nat) (new : List (Nat × Ob)) (Q : K → Prop) : Prop :=
 ∃ news frz, new = news.map (fun x => (x.n, x.ob)) ∧ taken.Perm (news.filterMap New.src ++ frz) ∧ ((∀ x ∈ news, x.ok k) ∧ ∀ s ∈ frz, ∃ e r xs d, k.h s = some (.arr e r xs d) ∧ d.rd = true ∧ bP s = false) ∧ ∀ k', Kept F (· ∈ ids) k k' news frz → Q k'
theorem fE.none {F : Fx} {k : K} {ids : List Nat} {Q : K → Prop} (h : ∀ k', d_ F (· ∈ ids) k k' → k'.w = k.w → Q k') : fE F k ids [] [] Q :=
 ⟨[], [], rfl, .refl _, ⟨fun _ hx => by simp at hx, fun _ hx => by simp at hx⟩, fun k' hk => h k' hk.le hk.w⟩
theorem fE.and {F : Fx} {k : K} {ids t1 t2 : List Nat} {n1 n2 : List (Nat × Ob)} {Q1 Q2 : K → Prop} (h1 : fE F k ids t1 n1 Q1) (h2 : fE F k ids t2 n2 Q2) : fE F k ids (t1 ++ t2) (n1 ++ n2) fun k' => Q1 k' ∧ Q2 k' := by
 obtain ⟨a1, f1, rfl, p1, o1, q1⟩ := h1
 obtain ⟨a2, f2, rfl, p2, o2, q2⟩ := h2
 refine ⟨a1 ++ a2, f1 ++ f2, by simp, ?_, ⟨fun x hx => ?_, fun x hx => ?_⟩, fun k' hk => ⟨q1 k' hk.left, q2 k' hk.right⟩⟩
 ·refine (List.Perm.append p1 p2).trans ?_
  simp only [List.filterMap_append, List.append_assoc]
  refine List.Perm.append_left _ ?_
  rw [← List.append_assoc, ← List.append_assoc]
  exact List.Perm.append_right _ List.perm_append_comm
 ·rcases List.mem_append.1 hx with hx | hx
  ·exact o1.1 x hx
  ·exact o2.1 x hx
 ·rcases List.mem_append.1 hx with hx | hx
  ·exact o1.2 x hx
  ·exact o2.2 x hx
theorem fE.mono {F : Fx} {k : K} {ids t : List Nat} {n : List (Nat × Ob)} {Q Q' : K → Prop} (h : fE F k ids t n Q) (hq : ∀ k', Q k' → Q' k') : fE F k ids t n Q' := by
 obtain ⟨a1, f1, h1, p1, o1, q1⟩ := h
 exact ⟨a1, f1, h1, p1, o1, fun k' hk => hq k' (q1 k' hk)⟩
theorem Dj {F : Fx} {k : K} (hk : aI F k) {S : St} (hS : k.h = lkH S.H) {ids : List Nat} {d : Dir} {c c' : C} {t : List Nat} {n : List (Nat × Ob)} (h : RZ ids S.H d c = some (c', t, n)) {v : Value} (hv : dS F k c v) :
 fE F k ids t n fun k' => dS F k' c' v := by
 have em : ∀ {m e : Nat} {r : Ty} {dd : Dp} {v : Value} {a : Option Addr}, dd.rd = true → v = .slice a 0 0 → fE F k ids [] [(m, .arr e r [] dd)] fun k' => dS F k' (.arr m) v := by
  intro m e r dd v a hdr hv
  refine ⟨[⟨m, .arr e r [] dd, .slice a 0 0, none⟩], [], rfl, .refl _, ⟨fun x hx => ?_, fun x hx => by simp at hx⟩, fun k' hk' => ?_⟩
  ·simp at hx; subst hx; exact ⟨e, r, [], dd, rfl, hdr, rfl, a, rfl⟩
  ·obtain ⟨h1, h2⟩ := hk'.new _ List.mem_cons_self
   refine ⟨⟨a, 0, 0, hv⟩, ?_⟩
   rw [show k'.h m = _ from h1]
   show v = k'.ν m
   rw [show k'.ν m = _ from h2, hv]
 have mv : ∀ {m id e : Nat} {r : Ty} {xs : List r.den} {dd d0 : Dp} {v : Value}, k.h id = some (.arr e r xs d0) → d0.rd = true → (dd = d0 ∨ dd = .no) → bP id = false → dS F k (.arr id) v → fE F k ids [id] [(m, .arr e r xs dd)] fun k' => dS F k' (.arr m) v := by
  intro m id e r xs dd d0 v hid hdr hdd hp hv
  obtain ⟨hsl, hv⟩ := hv
  rw [hid] at hv
  have hv : v = k.ν id := hv
  refine ⟨[⟨m, .arr e r xs dd, k.ν id, some id⟩], [], rfl, .refl _, ⟨fun x hx => ?_, fun x hx => by simp at hx⟩, fun k' hk' => ?_⟩
  ·simp at hx; subst hx; exact ⟨e, r, xs, dd, rfl, (by rcases hdd with h | h <;> rw [h] <;> first | exact hdr | rfl), ⟨d0, hid, hdr, hdd⟩, rfl, hp⟩
  ·obtain ⟨h1, h2⟩ := hk'.new _ List.mem_cons_self
   refine ⟨hsl, ?_⟩
   rw [show k'.h m = _ from h1]
   show v = k'.ν m
   rw [show k'.ν m = _ from h2, hv]
 have fz : ∀ {id e : Nat} {r : Ty} {xs : List r.den} {dd : Dp} {v : Value}, k.h id = some (.arr e r xs dd) → dd.rd = true → bP id = false → dS F k (.arr id) v → fE F k ids [id] [] fun k' => dS F k' (.v (.slice r) xs) v := by
  intro id e r xs dd v hid hdr hp hv
  obtain ⟨_, hv⟩ := hv
  rw [hid] at hv
  have hv : v = k.ν id := hv
  refine ⟨[], [id], rfl, .refl _, ⟨fun x hx => by simp at hx, fun x hx => by simp at hx; subst hx; exact ⟨e, r, xs, dd, hid, hdr, hp⟩⟩, fun k' hk' => ?_⟩
  subst hv
  refine (OU hk hid hdr).mono (fun b hb => ?_) (fun b _ _ => by rw [hk'.w])
  rcases hb with hb | ⟨i, hi, ho⟩
  ·exact hk'.le.ok b hb
  ·simp at hi; subst hi; exact hk'.frz i (by simp) b ho
 unfold RZ at h
 split at h
 · -- keep
  cases hb : NG c.refs ids with
  | false => rw [hb] at h; cases h
  | true =>
   rw [hb] at h
   simp only [cond_true, Option.some.injEq, Prod.mk.injEq] at h
   obtain ⟨rfl, rfl, rfl⟩ := h
   exact fE.none fun k' hle _ => hle.c (fun id hi => kW hb hi) hv
 ·rename_i m e r
  simp only [Option.some.injEq, Prod.mk.injEq] at h
  obtain ⟨rfl, rfl, rfl⟩ := h
  exact em rfl (a := none) hv
 ·rename_i m e r
  simp only [Option.some.injEq, Prod.mk.injEq] at h
  obtain ⟨rfl, rfl, rfl⟩ := h
  obtain ⟨a, hv⟩ := hv
  exact em rfl hv
 ·rename_i m e r id
  rw [← hS] at h
  split at h
  ·rename_i e' r' xs hid
   cases hb : (Nat.beq e' e && (decide (r' = r) && !bP id && !bP m)) with
   | false => rw [hb] at h; cases h
   | true =>
    rw [hb] at h
    simp only [cond_true, Option.some.injEq, Prod.mk.injEq] at h
    obtain ⟨rfl, rfl, rfl⟩ := h
    simp only [Bool.and_eq_true, Bool.not_eq_true'] at hb
    exact mv hid rfl (.inl rfl) hb.2.1.2 hv
  ·rename_i e' r' xs ns' hid
   cases hb : (Nat.beq e' e && (decide (r' = r) && !bP id && !bP m)) with
   | false => rw [hb] at h; cases h
   | true =>
    rw [hb] at h
    simp only [cond_true, Option.some.injEq, Prod.mk.injEq] at h
    obtain ⟨rfl, rfl, rfl⟩ := h
    simp only [Bool.and_eq_true, Bool.not_eq_true'] at hb
    exact mv hid rfl (.inr rfl) hb.2.1.2 hv
  ·cases h
 ·rename_i m e ns r
  cases hb : bP m with
  | true => rw [hb] at h; cases h
  | false =>
   rw [hb] at h
   simp only [Bool.not_false, cond_true, Option.some.injEq, Prod.mk.injEq] at h
   obtain ⟨rfl, rfl, rfl⟩ := h
   exact em rfl (a := none) hv
 ·rename_i m e ns r
  cases hb : bP m with
  | true => rw [hb] at h; cases h
  | false =>
   rw [hb] at h
   simp only [Bool.not_false, cond_true, Option.some.injEq, Prod.mk.injEq] at h
   obtain ⟨rfl, rfl, rfl⟩ := h
   obtain ⟨a, hv⟩ := hv
   exact em rfl hv
 ·rename_i m e ns r id
  rw [← hS] at h
  split at h
  ·rename_i e' r' xs ns' hid
   cases hb : (Nat.beq e' e && (decide (r' = r) && decide (ns' = ns) && !bP id && !bP m)) with
   | false => rw [hb] at h; cases h
   | true =>
    rw [hb] at h
    simp only [cond_true, Option.some.injEq, Prod.mk.injEq] at h
    obtain ⟨rfl, rfl, rfl⟩ := h
    simp only [Bool.and_eq_true, Bool.not_eq_true'] at hb
    exact mv hid rfl (.inl rfl) hb.2.1.2 hv
  ·cases h
 ·simp only [Option.some.injEq, Prod.mk.injEq] at h
  obtain ⟨rfl, rfl, rfl⟩ := h
  have hv : v = .slice none 0 0 := hv
  subst hv
  exact fE.none fun k' _ _ => Rd.nil _ none 0
 ·simp only [Option.some.injEq, Prod.mk.injEq] at h
  obtain ⟨rfl, rfl, rfl⟩ := h
  obtain ⟨ad, hv⟩ := hv
  subst hv
  exact fE.none fun k' _ _ => Rd.nil _ ad 0
 ·simp only [Option.some.injEq, Prod.mk.injEq] at h
  obtain ⟨rfl, rfl, rfl⟩ := h
  exact fE.none fun k' hle _ => hle.rd hv
 ·rename_i r id
  rw [← hS] at h
  split at h
  ·rename_i e r' xs hid
   cases hb : bP id with
   | true => rw [hb] at h; cases h
   | false =>
    rw [hb] at h
    simp only [cond_false, Option.some.injEq, Prod.mk.injEq] at h
    obtain ⟨rfl, rfl, rfl⟩ := h
    exact fz hid rfl hb hv
  ·rename_i e r' xs ns hid
   cases hb : bP id with
   | true => rw [hb] at h; cases h
   | false =>
    rw [hb] at h
    simp only [cond_false, Option.some.injEq, Prod.mk.injEq] at h
    obtain ⟨rfl, rfl, rfl⟩ := h
    exact fz hid rfl hb hv
  ·rename_i r' xs hid
   simp only [Option.some.injEq, Prod.mk.injEq] at h
   obtain ⟨rfl, rfl, rfl⟩ := h
   obtain ⟨_, hv⟩ := hv
   rw [hid] at hv
   have hv : v = k.ν id := hv
   subst hv
   exact fE.none fun k' hle _ => hle.rd (hk.obj id _ hid)
  ·cases h
 ·simp only [Option.some.injEq, Prod.mk.injEq] at h
  obtain ⟨rfl, rfl, rfl⟩ := h
  exact fE.none fun _ _ _ => trivial
 ·cases h
theorem xg {F : Fx} {k : K} (hk : aI F k) {S : St} (hS : k.h = lkH S.H) {ids : List Nat} : ∀ {ds : List Dir} {cs cs' : List C} {t : List Nat} {n : List (Nat × Ob)}, vM ids S.H ds cs = some (cs', t, n) → ∀ {vs : List Value}, bK F k cs vs →
 fE F k ids t n fun k' => bK F k' cs' vs
 | [], [], cs', t, n, h, vs, hv => by
  simp only [vM, Option.some.injEq, Prod.mk.injEq] at h
  obtain ⟨rfl, rfl, rfl⟩ := h
  exact fE.none fun k' _ _ => hv
 | [], c :: cs, cs', t, n, h, vs, hv => by simp [vM] at h
 | d :: ds, [], cs', t, n, h, vs, hv => by simp [vM] at h
 | d :: ds, c :: cs, cs', t, n, h, vs, hv => by
  obtain ⟨v, vs', rfl, h1, h2⟩ := hv
  simp only [vM] at h
  split at h
  ·rename_i p q hp hq
   simp only [Option.some.injEq, Prod.mk.injEq] at h
   obtain ⟨rfl, rfl, rfl⟩ := h
   exact ((Dj hk hS hp h1).and (xg hk hS hq h2)).mono fun k' hh => ⟨v, vs', rfl, hh.1, hh.2⟩
  ·cases h
theorem sO {F : Fx} {k : K} (hk : aI F k) {S : St} (hS : k.h = lkH S.H) {a : Act} (hf : FrR F k S.fr a) {ids : List Nat} : ∀ {l : List (Nat × Dir)} {fr : List (Nat × AV)} {t : List Nat} {n : List (Nat × Ob)}, rZ ids S l = some (fr, t, n) →
 fE F k ids t n fun k' => ∀ p ∈ fr, iq F k' p.2 (a.eval (.tmp p.1))
 | [], fr, t, n, h => by
  simp only [rZ, Option.some.injEq, Prod.mk.injEq] at h
  obtain ⟨rfl, rfl, rfl⟩ := h
  exact fE.none fun k' _ _ p hp => by simp at hp
 | (i, d) :: l, fr, t, n, h => by
  have one : ∀ {fr t n}, (match lkF S.fr i with
   | .w (.one c) => match RZ ids S.H d c, rZ ids S l with
    | some p, some q => some ((i, AV.w (.one p.1)) :: q.1, p.2.1 ++ q.2.1, p.2.2 ++ q.2.2)
    | _, _ => none
   | _ => none) = some (fr, t, n) → fE F k ids t n fun k' => ∀ p ∈ fr, iq F k' p.2 (a.eval (.tmp p.1)) := by
   intro fr t n h
   split at h
   ·rename_i c hc
    split at h
    ·rename_i p q hp hq
     simp only [Option.some.injEq, Prod.mk.injEq] at h
     obtain ⟨rfl, rfl, rfl⟩ := h
     have hi := hf i
     rw [hc] at hi
     refine ((Dj hk hS hp hi).and (sO hk hS hf hq)).mono fun k' hh x hx => ?_
     rcases List.mem_cons.1 hx with rfl | hx
     ·exact hh.1
     ·exact hh.2 x hx
    ·cases h
   ·cases h
  cases d with
  | keep =>
   simp only [rZ] at h
   cases hb : NG (lkF S.fr i).refs ids with
   | false => rw [hb] at h; cases h
   | true =>
    rw [hb] at h
    simp only [cond_true] at h
    split at h
    ·rename_i q hq
     obtain ⟨q1, q2, q3⟩ := q
     simp only [Option.some.injEq, Prod.mk.injEq] at h
     obtain ⟨rfl, rfl, rfl⟩ := h
     have h1 : fE F k ids [] [] fun k' => iq F k' (lkF S.fr i) (a.eval (.tmp i)) := fE.none fun k' hle _ => hle.av (fun id hi => kW hb hi) (hf i)
     refine (h1.and (sO hk hS hf hq)).mono fun k' hh x hx => ?_
     rcases List.mem_cons.1 hx with rfl | hx
     ·exact hh.1
     ·exact hh.2 x hx
    ·cases h
  | own n e r => simp only [rZ] at h; exact one h
  | dow n e ns r => simp only [rZ] at h; exact one h
  | frz r => simp only [rZ] at h; exact one h
  | drop => simp only [rZ] at h; exact one h
theorem Df {F : Fx} {k : K} (hk : aI F k) {S : St} (hS : k.h = lkH S.H) {ids : List Nat} : ∀ {l : List (Nat × List Dir)} {b : List (Nat × Ob)} {t : List Nat} {n : List (Nat × Ob)}, Ql ids S l = some (b, t, n) →
 b.map (·.1) = l.map (·.1) ∧ (∀ p ∈ b, ∃ cs cs', k.h p.1 = some (.box cs) ∧ p.2 = .box cs') ∧
 fE F k ids t n fun k' => ∀ p ∈ b, ∃ cs' vs T, p.2 = .box cs' ∧ k.w.heap[k.μ p.1]? = some (.cells vs.toArray T (0, 0)) ∧ bK F k' cs' vs
 | [], b, t, n, h => by
  simp only [Ql, Option.some.injEq, Prod.mk.injEq] at h
  obtain ⟨rfl, rfl, rfl⟩ := h
  exact ⟨rfl, fun p hp => by simp at hp, fE.none fun k' _ _ p hp => by simp at hp⟩
 | (i, ds) :: l, b, t, n, h => by
  simp only [Ql] at h
  rw [← hS] at h
  split at h
  ·rename_i cs hi
   split at h
   ·rename_i p q hp hq
    simp only [Option.some.injEq, Prod.mk.injEq] at h
    obtain ⟨rfl, rfl, rfl⟩ := h
    obtain ⟨vs, T, hc, hr⟩ := hk.obj i _ hi
    obtain ⟨h1, h2, h3⟩ := Df hk hS hq
    refine ⟨by simp [h1], fun x hx => ?_, ((xg hk hS hp hr).and h3).mono fun k' hh x hx => ?_⟩
    ·rcases List.mem_cons.1 hx with rfl | hx
     ·exact ⟨cs, p.1, hi, rfl⟩
     ·exact h2 x hx
    ·rcases List.mem_cons.1 hx with rfl | hx
     ·exact ⟨p.1, vs, T, rfl, hc, hh.1⟩
     ·exact hh.2 x hx
   ·cases h
  ·cases h
theorem Dq {H : List (Nat × Ob)} : ∀ {l : List Nat} {o : List (Nat × Ob)}, RF H l = some o → o.map (·.1) = l ∧ ∀ p ∈ o, lkH H p.1 = some p.2 ∧ (∀ cs, p.2 ≠ .box cs) ∧ ∀ e r xs d, p.2 = .arr e r xs d → d.rd = true
 | [], o, h => by
  simp only [RF, Option.some.injEq] at h
  subst h
  exact ⟨rfl, fun p hp => by simp at hp⟩
 | i :: l, o, h => by
  simp only [RF] at h
  split at h
  all_goals first
   | (cases h; done)
   | (rename_i hi hq
      simp only [Option.some.injEq] at h
      subst h
      obtain ⟨h1, h2⟩ := Dq hq
      refine ⟨by simp [h1], fun p hp => ?_⟩
      rcases List.mem_cons.1 hp with rfl | hp
      ·exact ⟨hi, (fun _ h => by cases h), fun _ _ _ _ h => by cases h <;> rfl⟩
      ·exact h2 p hp)
end Go.MC
namespace Go.MC
open Go.RowKit
theorem jl : ∀ {l : List (Nat × Ob)}, (l.map (·.1)).Nodup → ∀ {i : Nat} {o : Ob}, (i, o) ∈ l → lkH l i = some o
 | [], _, i, o, h => by simp at h
 | (j, p) :: l, hn, i, o, h => by
  simp only [List.map_cons, List.nodup_cons] at hn
  simp only [lkH]
  rcases List.mem_cons.1 h with h | h
  ·cases h; simp [Nat.beq_refl]
  ·have hne : Nat.beq j i = false := by
    cases hb : Nat.beq j i with
    | false => rfl
    | true =>
     have := Nat.eq_of_beq_eq_true hb
     subst this
     exact absurd (List.mem_map.2 ⟨_, h, rfl⟩) hn.1
   rw [hne]
   exact jl hn.2 h
theorem YN : ∀ (fr : List (Nat × AV)) (t : Nat), lkF fr t = .w (.one .u) ∨ (t, lkF fr t) ∈ fr
 | [], _ => .inl rfl
 | (j, v) :: fr, t => by
  simp only [lkF]
  cases hb : Nat.beq j t with
  | true =>
   have := Nat.eq_of_beq_eq_true hb
   subst this
   exact .inr (by simp)
  | false =>
   rcases YN fr t with h | h
   ·exact .inl h
   ·exact .inr (by simp only [cond_false]; exact List.mem_cons_of_mem _ h)
theorem Ph : ∀ {news : List New}, (news.filterMap New.src).Nodup → ∀ {x y : New} {s : Nat}, x ∈ news → y ∈ news → x.src = some s → y.src = some s → x = y
 | [], _, x, y, s, hx, _, _, _ => by simp at hx
 | z :: news, hn, x, y, s, hx, hy, h1, h2 => by
  have hin : ∀ w ∈ news, w.src = some s → s ∈ news.filterMap New.src := fun w hw h => List.mem_filterMap.2 ⟨w, hw, h⟩
  have tail : (news.filterMap New.src).Nodup := by
   rw [List.filterMap_cons] at hn
   cases hz : z.src with
   | none => rw [hz] at hn; exact hn
   | some t => rw [hz] at hn; exact (List.nodup_cons.1 hn).2
  rcases List.mem_cons.1 hx with hx | hx
  ·subst hx
   rcases List.mem_cons.1 hy with hy | hy
   ·exact hy.symm
   ·rw [List.filterMap_cons, h1] at hn
    exact absurd (hin y hy h2) (List.nodup_cons.1 hn).1
  ·rcases List.mem_cons.1 hy with hy | hy
   ·have h3 := hin x hx h1
    rw [hy] at h2
    rw [List.filterMap_cons, h2] at hn
    exact absurd h3 (List.nodup_cons.1 hn).1
   ·exact Ph tail hx hy h1 h2
theorem Hf : ∀ {news : List New}, (news.map New.n).Nodup → ∀ {x : New}, x ∈ news → news.find? (fun y => Nat.beq y.n x.n) = some x
 | [], _, x, h => by simp at h
 | z :: news, hn, x, h => by
  simp only [List.map_cons, List.nodup_cons] at hn
  rw [List.find?_cons]
  rcases List.mem_cons.1 h with rfl | h
  ·simp [Nat.beq_refl]
  ·have : Nat.beq z.n x.n = false := by
    cases hb : Nat.beq z.n x.n with
    | false => rfl
    | true =>
     have := Nat.eq_of_beq_eq_true hb
     exact absurd (List.mem_map.2 ⟨x, h, this.symm⟩) hn.1
   rw [this]
   exact Hf hn.2 h
theorem Qq {F : Fx} {k : K} {S S' : St} {a : Act} {nt : Nat} {ent : List Nat} {sp : NY} (hs : Sim F k S a nt) (h : aeG ent sp S = some S') : ∃ k', k'.w = k.w ∧ Sim F k' S' a nt ∧ d_ F (· ∈ ent) k k' := by
 have hk := hs.hk
 unfold aeG at h
 dsimp only at h
 split at h
 case h_2 => cases h
 rename_i f b o hf hb ho
 obtain ⟨fr, ft, fn⟩ := f
 obtain ⟨bb, bt, bn⟩ := b
 dsimp only at h
 cases hc : (NG ent (sp.bx.map (·.1) ++ sp.os) && oI (ft ++ bt ++ (sp.bx.map (·.1) ++ sp.os)) && oI ((fn ++ bn).map (·.1) ++ (sp.bx.map (·.1) ++ sp.os))) with
 | false => rw [hc] at h; cases h
 | true =>
  rw [hc] at h
  simp only [cond_true, Option.some.injEq] at h
  subst h
  simp only [Bool.and_eq_true] at hc
  obtain ⟨⟨hsub, hnt⟩, hnn⟩ := hc
  have hnt := kG hnt
  have hnn := kG hnn
  generalize hids : sp.bx.map (·.1) ++ sp.os = ids at hf hb hsub hnt hnn
  obtain ⟨hbk, hbox, hNb⟩ := Df hk hs.hS hb
  obtain ⟨hok, hoo⟩ := Dq ho
  rw [← hs.hS] at hoo
  obtain ⟨news, frz, hnew, hperm, ⟨hnok, hfrz⟩, hQ⟩ := (sO hk hs.hS hs.hf hf).and hNb
  have hnewk : (fn ++ bn).map (·.1) = news.map New.n := by rw [hnew]; simp [Function.comp_def]
  rw [hnewk] at hnn
  have hnd1 : (news.map New.n).Nodup := (List.nodup_append.1 hnn).1
  have hdis : ∀ x ∈ news, x.n ∉ ids := fun x hx hm => (List.nodup_append.1 hnn).2.2 x.n (List.mem_map.2 ⟨x, hx, rfl⟩) x.n hm rfl
  have hLk : ((bb ++ (o ++ (fn ++ bn))).map (·.1)).Nodup := by
   rw [List.map_append, List.map_append, hbk, hok, hnewk, ← List.append_assoc, hids]
   exact (List.perm_append_comm.nodup_iff).1 hnn
  have htn : (news.filterMap New.src ++ frz).Nodup := (hperm.nodup_iff).1 (List.nodup_append.1 hnt).1
  have htids : ∀ s, s ∈ news.filterMap New.src ∨ s ∈ frz → s ∉ ids := by
   intro s h1 h2
   have : s ∈ ft ++ bt := (hperm.mem_iff).2 (List.mem_append.2 h1)
   exact (List.nodup_append.1 hnt).2.2 s this s h2 rfl
  let k' : K := ⟨k.w, lkH (bb ++ (o ++ (fn ++ bn))), k.μ, fun i => match news.find? (fun y => Nat.beq y.n i) with | some x => x.v | none => k.ν i,
   fun i => match news.find? (fun y => Nat.beq y.n i) with | some x => (match x.src with | some s => k.nb s | none => []) | none => k.nb i⟩
  have hνid : ∀ i ∈ ids, k'.ν i = k.ν i := by
   intro i hi
   show (match news.find? (fun y => Nat.beq y.n i) with | some x => x.v | none => k.ν i) = k.ν i
   cases hfd : news.find? (fun y => Nat.beq y.n i) with
   | none => rfl
   | some x =>
    have h1 := List.mem_of_find?_eq_some hfd
    have h2 : x.n = i := Nat.eq_of_beq_eq_true (by simpa using List.find?_some hfd)
    exact absurd (h2 ▸ hi) (hdis x h1)
  have hnbid : ∀ i ∈ ids, k'.nb i = k.nb i := by
   intro i hi
   show (match news.find? (fun y => Nat.beq y.n i) with | some x => (match x.src with | some s => k.nb s | none => []) | none => k.nb i) = k.nb i
   cases hfd : news.find? (fun y => Nat.beq y.n i) with
   | none => rfl
   | some x =>
    have h1 := List.mem_of_find?_eq_some hfd
    have h2 : x.n = i := Nat.eq_of_beq_eq_true (by simpa using List.find?_some hfd)
    exact absurd (h2 ▸ hi) (hdis x h1)
  have hnbnew : ∀ x ∈ news, k'.nb x.n = (match x.src with | some s => k.nb s | none => []) := by
   intro x hx
   show (match news.find? (fun y => Nat.beq y.n x.n) with | some x => (match x.src with | some s => k.nb s | none => []) | none => k.nb x.n) = _
   rw [Hf hnd1 hx]
  have hνnew : ∀ x ∈ news, k'.ν x.n = x.v := by
   intro x hx
   show (match news.find? (fun y => Nat.beq y.n x.n) with | some x => x.v | none => k.ν x.n) = x.v
   rw [Hf hnd1 hx]
  have hhb : ∀ p ∈ bb, k'.h p.1 = some p.2 := fun p hp => jl hLk (by simp [hp])
  have hho : ∀ p ∈ o, k'.h p.1 = some p.2 := fun p hp => jl hLk (by simp [hp])
  have hhn : ∀ x ∈ news, k'.h x.n = some x.ob := fun x hx => jl hLk (by
   rw [List.mem_append, List.mem_append, hnew]
   exact .inr (.inr (List.mem_map.2 ⟨x, hx, rfl⟩)))
  have hinv : ∀ i ob, k'.h i = some ob → (i, ob) ∈ bb ∨ (i, ob) ∈ o ∨ ∃ x ∈ news, x.n = i ∧ x.ob = ob := by
   intro i ob h1
   have := fH h1
   rw [List.mem_append, List.mem_append, hnew] at this
   rcases this with h2 | h2 | h2
   ·exact .inl h2
   ·exact .inr (.inl h2)
   ·obtain ⟨x, hx, h3⟩ := List.mem_map.1 h2
    injection h3 with h3 h4
    exact .inr (.inr ⟨x, hx, h3, h4⟩)
  have hbid : ∀ p ∈ bb, p.1 ∈ ids := fun p hp => by rw [← hids, ← hbk]; exact List.mem_append.2 (.inl (List.mem_map.2 ⟨p, hp, rfl⟩))
  have hoid : ∀ p ∈ o, p.1 ∈ ids := fun p hp => by rw [← hids]; exact List.mem_append.2 (.inr (hok ▸ List.mem_map.2 ⟨p, hp, rfl⟩))
  have hown : ∀ i c, k'.own i c → ∃ s, k.own s c ∧ ((i ∈ ids ∧ s = i) ∨ ∃ x ∈ news, x.n = i ∧ x.src = some s) := by
   intro i c h1
   unfold K.own at h1
   cases hi : k'.h i with
   | none => rw [hi] at h1; exact h1.elim
   | some ob =>
    rw [hi] at h1
    rcases hinv i ob hi with h2 | h2 | ⟨x, hx, h3, h4⟩
    ·obtain ⟨cs, cs', h5, h6⟩ := hbox _ h2
     dsimp only at h5 h6
     subst h6
     refine ⟨i, ?_, .inl ⟨hbid _ h2, rfl⟩⟩
     unfold K.own
     rw [h5]
     exact h1
    ·have h5 := (hoo _ h2).1
     refine ⟨i, ?_, .inl ⟨hoid _ h2, rfl⟩⟩
     dsimp only at h5
     unfold K.own
     rw [h5]
     cases ob with
     | arr e r xs d =>
      cases d with
      | no => rw [hνid i (hoid _ h2)] at h1; exact h1
      | yes ns hs => rw [hνid i (hoid _ h2), hnbid i (hoid _ h2)] at h1; exact h1
     | box cs => exact absurd rfl ((hoo _ h2).2.1 cs)
     | imm r xs => exact h1.elim
     | gone => exact h1.elim
    ·subst h3 h4
     obtain ⟨e, r, xs, d, h5, hdr, h6⟩ := hnok x hx
     have h7 : ownB x.v = some c ∨ c ∈ k'.nb x.n ∧ d ≠ .no := by
      rw [h5] at h1
      cases d with
      | no =>
       dsimp only at h1
       rw [hνnew x hx] at h1
       exact .inl h1
      | yes ns hs =>
       dsimp only at h1
       rw [hνnew x hx] at h1
       rcases h1 with h1 | h1
       ·exact .inl h1
       ·exact .inr ⟨h1, fun h => by cases h⟩
     rw [hnbnew x hx] at h7
     cases hsrc : x.src with
     | none =>
      rw [hsrc] at h6 h7
      obtain ⟨_, a0, h6⟩ := h6
      rcases h7 with h7 | h7
      ·rw [h6, gB] at h7
       cases h7
      ·simp at h7
     | some s =>
      rw [hsrc] at h6 h7
      obtain ⟨⟨d0, h60, _, hdd⟩, h61, _⟩ := h6
      refine ⟨s, ?_, .inr ⟨x, hx, rfl, hsrc⟩⟩
      rcases h7 with h7 | ⟨h7, h8⟩
      ·exact cu h60 (by rw [← h61]; exact h7)
      ·rcases hdd with rfl | rfl
       ·cases d with
        | no => exact absurd rfl h8
        | yes ns hs => exact (dZ h60).2 (.inr h7)
       ·exact absurd rfl h8
  have hle : d_ F (· ∈ ids) k k' := by
   refine ⟨Nat.le_refl _, fun c hc => ?_, fun _ _ _ => rfl, fun i hi cs h1 => ?_, fun i hi e r xs d h1 => ?_, fun i hi r xs h1 => ?_, fun i hi h1 => ?_⟩
   ·rcases hc with hc | ⟨h1, h2, h3⟩
    ·exact .inl hc
    ·refine .inr ⟨h1, h2, fun i h4 => ?_⟩
     obtain ⟨s, h5, _⟩ := hown i c h4
     exact h3 s h5
   all_goals
    rw [← hids] at hi
    rcases List.mem_append.1 hi with hi' | hi'
   ·rw [← hbk] at hi'
    obtain ⟨p, hp, rfl⟩ := List.mem_map.1 hi'
    obtain ⟨_, cs', _, h3⟩ := hbox p hp
    exact ⟨⟨cs', by rw [hhb p hp, h3]⟩, rfl⟩
   ·rw [← hok] at hi'
    obtain ⟨p, hp, rfl⟩ := List.mem_map.1 hi'
    have := (hoo p hp).1
    rw [h1] at this
    exact absurd (Option.some.inj this).symm ((hoo p hp).2.1 cs)
   ·rw [← hbk] at hi'
    obtain ⟨p, hp, rfl⟩ := List.mem_map.1 hi'
    obtain ⟨_, _, h2, _⟩ := hbox p hp
    rw [h1] at h2; cases h2
   ·rw [← hok] at hi'
    obtain ⟨p, hp, rfl⟩ := List.mem_map.1 hi'
    have := (hoo p hp).1
    rw [h1] at this
    exact .inl ⟨xs, d, by rw [hho p hp, ← this], rfl, hνid _ (hoid p hp)⟩
   ·rw [← hbk] at hi'
    obtain ⟨p, hp, rfl⟩ := List.mem_map.1 hi'
    obtain ⟨_, _, h2, _⟩ := hbox p hp
    rw [h1] at h2; cases h2
   ·rw [← hok] at hi'
    obtain ⟨p, hp, rfl⟩ := List.mem_map.1 hi'
    have := (hoo p hp).1
    rw [h1] at this
    exact ⟨r, xs, by rw [hho p hp, ← this], hνid _ (hoid p hp)⟩
   ·rw [← hbk] at hi'
    obtain ⟨p, hp, rfl⟩ := List.mem_map.1 hi'
    obtain ⟨_, _, h2, _⟩ := hbox p hp
    rw [h1] at h2; cases h2
   ·rw [← hok] at hi'
    obtain ⟨p, hp, rfl⟩ := List.mem_map.1 hi'
    have := (hoo p hp).1
    rw [h1] at this
    rw [hho p hp, ← this]
  have hkept : Kept F (· ∈ ids) k k' news frz := by
   refine ⟨hle, rfl, fun x hx => ⟨hhn x hx, hνnew x hx⟩, fun s hs c hc => ?_⟩
   obtain ⟨e, r, xs, d, h1, _, hp⟩ := hfrz s hs
   have hB := (hk.rng s c hc).1
   refine .inr ⟨hB, (hk.rng s c hc).2, fun i hi => ?_⟩
   obtain ⟨s', h2, h3⟩ := hown i c hi
   obtain rfl := hk.inj s' s c h2 hc
   rcases h3 with ⟨h3, rfl⟩ | ⟨x, hx, _, h3⟩
   ·exact htids s' (.inr hs) h3
   ·exact (List.nodup_append.1 htn).2.2 s' (List.mem_filterMap.2 ⟨x, hx, h3⟩) s' hs rfl
  obtain ⟨hF, hB⟩ := hQ k' hkept
  have hobj : ∀ i ob, k'.h i = some ob → DX F k' i ob := by
   intro i ob hi
   rcases hinv i ob hi with h2 | h2 | ⟨x, hx, h3, h4⟩
   ·obtain ⟨cs', vs, T, h5, h6, h7⟩ := hB _ h2
    dsimp only at h5 h6
    subst h5
    exact ⟨vs, T, h6, h7⟩
   ·have h5 := (hoo _ h2).1
    have h6 := hνid i (hoid _ h2)
    dsimp only at h5
    have h7 := hk.obj i ob h5
    cases ob with
    | arr e r xs d =>
     cases d with
     | no =>
      obtain ⟨vs, h8, h9, h10⟩ := h7
      exact ⟨vs, by rw [h6]; exact h8, hle.rdRows h9, h10⟩
     | yes ns hs =>
      cases hs with
      | some y => have := (hoo _ h2).2.2 _ _ _ _ rfl; cases this
      | none =>
       obtain ⟨vs, vs', h8, h9, h10, h11, h12⟩ := h7
       refine ⟨vs, vs', by rw [h6]; exact h8, ?_, h10, by rw [h6, hnbid i (hoid _ h2)]; exact h11, h12⟩
       rw [hnbid i (hoid _ h2)]
       exact h9.move hle.ok hle.hp fun _ _ => rfl
    | box cs => exact absurd rfl ((hoo _ h2).2.1 cs)
    | imm r xs =>
     show Rd _ _ _ _ [k'.ν i]
     rw [h6]
     exact hle.rd h7
    | gone => trivial
   ·subst h3 h4
    obtain ⟨e, r, xs, d, h5, hdr, h6⟩ := hnok x hx
    rw [h5]
    cases hsrc : x.src with
    | none =>
     rw [hsrc] at h6
     obtain ⟨rfl, a0, h7⟩ := h6
     have hnb := hnbnew x hx
     rw [hsrc] at hnb
     have hrow : cZ k'.w (F.bs x.n) e r.sz (k'.ν x.n) ([] : List r.den).length [] := by
      rw [hνnew x hx, h7]
      exact .mt a0
     cases d with
     | no => exact ⟨[], hrow, rfl, Nat.zero_le _⟩
     | yes ns hs =>
      cases hs with
      | some y => cases hdr
      | none => exact ⟨[], [], hrow, by rw [hnb]; exact ⟨rfl, rfl⟩, Nat.zero_le _, by rw [hνnew x hx, h7, hnb, gB]; simp, rfl⟩
    | some s =>
     rw [hsrc] at h6
     obtain ⟨⟨d0, h6, hdr0, hdd⟩, h7, hp⟩ := h6
     have hnb := hnbnew x hx
     rw [hsrc] at hnb
     have hbs : F.bs x.n ≤ F.bs s := Nat.le_refl _
     cases d with
     | no =>
      cases d0 with
      | no =>
       obtain ⟨vs, h8, h9, h10⟩ := hk.obj s _ h6
       refine ⟨vs, ?_, hle.rdRows h9, h10⟩
       rw [hνnew x hx, h7]
       exact ownsRow_base h8 hbs
      | yes ns hs =>
       cases hs with
       | some y => cases hdr0
       | none =>
        obtain ⟨vs, vs', h8, h9, h10, h11, h12⟩ := hk.obj s _ h6
        obtain rfl : vs' = vs := h12
        refine ⟨vs', ?_, h9.rd (ok' := k'.ok F) hle.ok fun b hb => ?_, h10⟩
        ·rw [hνnew x hx, h7]
         exact ownsRow_base h8 hbs
        ·have hbo : k.own s b := (dZ h6).2 (.inr hb)
         have hB := (hk.rng s b hbo).1
         refine .inr ⟨hB, (hk.rng s b hbo).2, fun i hi => ?_⟩
         obtain ⟨s', g1, g2⟩ := hown i b hi
         obtain rfl := hk.inj s' s b g1 hbo
         rcases g2 with ⟨g2, rfl⟩ | ⟨y, hy, g2, g3⟩
         ·exact htids s' (.inl (List.mem_filterMap.2 ⟨x, hx, hsrc⟩)) g2
         ·obtain rfl := Ph (List.nodup_append.1 htn).1 hy hx g3 hsrc
          subst g2
          unfold K.own at hi
          rw [hhn y hy, h5] at hi
          dsimp only at hi
          rw [hνnew y hy, h7] at hi
          rw [hi] at h11
          simp only [Option.toList_some, List.singleton_append, List.nodup_cons] at h11
          exact h11.1 hb
     | yes ns hs =>
      obtain rfl : Dp.yes ns hs = d0 := by
       rcases hdd with h | h
       ·exact h
       ·cases h
      cases hs with
      | some y => cases hdr
      | none =>
       obtain ⟨vs, vs', h8, h9, h10, h11, h12⟩ := hk.obj s _ h6
       refine ⟨vs, vs', ?_, ?_, h10, ?_, h12⟩
       ·rw [hνnew x hx, h7]
        exact ownsRow_base h8 hbs
       ·rw [hnb]
        exact (h9.base hbs).move hle.ok hle.hp fun _ _ => rfl
       ·rw [hνnew x hx, h7, hnb]; exact h11
  have hk' : aI F k' := by
   refine ⟨hobj, fun i j c h1 h2 => ?_, fun i c h1 => ?_, hk.frame, hk.size, hk.os, hk.tape, hk.output⟩
   ·obtain ⟨s, h3, h4⟩ := hown i c h1
    obtain ⟨s', h5, h6⟩ := hown j c h2
    obtain rfl := hk.inj s s' c h3 h5
    rcases h4 with ⟨h4, rfl⟩ | ⟨x, hx, rfl, h4⟩
    ·rcases h6 with ⟨_, h6⟩ | ⟨y, hy, rfl, h6⟩
     ·exact h6
     ·exact absurd h4 (htids _ (.inl (List.mem_filterMap.2 ⟨y, hy, h6⟩)))
    ·rcases h6 with ⟨h6, rfl⟩ | ⟨y, hy, rfl, h6⟩
     ·exact absurd h6 (htids _ (.inl (List.mem_filterMap.2 ⟨x, hx, h4⟩)))
     ·rw [Ph (List.nodup_append.1 htn).1 hx hy h4 h6]
   ·obtain ⟨s, h3, _⟩ := hown i c h1
    exact hk.rng s c h3
  refine ⟨k', rfl, ⟨hk', rfl, fun t => ?_, hs.sz, hs.df⟩, ⟨hle.size, hle.ok, hle.hp, fun i hi => hle.box i (kW hsub hi), fun i hi => hle.arr i (kW hsub hi), fun i hi => hle.imm i (kW hsub hi), fun i hi => hle.gone i (kW hsub hi)⟩⟩
  rcases YN fr t with h1 | h1
  ·show iq F k' (lkF fr t) _
   rw [h1]
   trivial
  ·exact hF _ h1
end Go.MC
namespace Go.MC
open Go.RowKit
def lL (nt : Nat) : Code → Bool
 | .region _ ops draw => (ops.toList.all fun o => IP nt o.dst) && (bif draw then P9 0 ops.toList else true)
 | .seq a b => lL nt a && lL nt b
 | .cond _ a b => lL nt a && lL nt b
 | .block _ c => lL nt c
 | .loop c => lL nt c
 | _ => true
def aqw : X → Exit
 | .nrm => .normal
 | .ex id => .exit id
 | .rt => .ret
theorem least {p : Nat → Prop} (h : ∃ n, p n) : ∃ n, p n ∧ ∀ m, m < n → ¬ p m := by
 obtain ⟨n, hn⟩ := h
 induction n using Nat.strongRecOn with
 | _ n ih =>
  by_cases hm : ∃ m, m < n ∧ p m
  ·obtain ⟨m, h1, h2⟩ := hm
   exact ih m h1 h2
  ·exact ⟨n, hn, fun m h1 h2 => hm ⟨m, h1, h2⟩⟩
theorem wp_loop_ghost {P : Program} {Q : Exit → Act → World → Prop} {c : Code} (I : Nat → Act → World → Prop) {n : Nat} {a : Act} {w : World} (h0 : I n a w)
 (round : ∀ n a w, I n a w → c.wp P (Exit.then (fun a' w' => ∃ m, m < n ∧ I m a' w') Q) a w) : (Code.loop c).wp P Q a w := by
 classical
 refine wp_loop (fun a w => ∃ n, I n a w) (fun a w => if h : ∃ n, I n a w then Classical.choose (least h) else 0) ⟨n, h0⟩ fun a w hI => ?_
 have hs := Classical.choose_spec (least hI)
 refine wp_mono (round _ a w hs.1) fun e a' w' he => ?_
 cases e with
 | normal =>
  obtain ⟨m, h1, h2⟩ := he
  refine ⟨⟨m, h2⟩, ?_⟩
  have hI' : ∃ n, I n a' w' := ⟨m, h2⟩
  have hs' := Classical.choose_spec (least hI')
  rw [dif_pos hI', dif_pos hI]
  rcases Nat.lt_or_ge m (Classical.choose (least hI')) with h | h
  ·exact absurd h2 (hs'.2 m h)
  ·omega
 | _ => exact he
def K.drawn (k : K) : K := { k with w := { k.w with drawn := k.w.drawn + 1 } }
theorem Io (F : Fx) (k : K) : Le F k k.drawn :=
 ⟨Nat.le_refl _, fun _ h => h, fun _ _ _ => rfl, fun _ cs h => ⟨⟨cs, h⟩, rfl⟩, fun _ e r xs d h => .inl ⟨xs, d, h, rfl, rfl⟩, fun _ r xs h => ⟨r, xs, h, rfl⟩, fun _ h => h⟩
theorem aee {F : Fx} {k : K} (hk : aI F k) : aI F k.drawn :=
 hk.step (Io F k) (fun _ _ h => .inl ⟨h, fun _ _ => rfl⟩) (fun _ _ h => .inl h) (fun _ _ _ => rfl) (Nat.le_refl _) rfl rfl rfl
theorem abJ {F : Fx} {k : K} {S : St} {a : Act} {nt : Nat} (hs : Sim F k S a nt) : Sim F k.drawn S a nt := ⟨aee hs.hk, hs.hS, hs.hf.le (Io F k), hs.sz, hs.df⟩
section mem
variable {P : Program}
theorem l9 {ρ : Type} {r : ρ} {F : Fx} {G : Nat → Prop} {k0 k : K} {S : St} {a : Act} {nt : Nat} {ent : List Nat} (hent : ∀ id, G id → id ∈ ent) {sp : NY} {kont : St → Option ρ} (hs : Sim F k S a nt) (hle : d_ F G k0 k) (h : Kz ent sp S kont = some r) :
 ∃ S' k', kont S' = some r ∧ k'.w = k.w ∧ Sim F k' S' a nt ∧ d_ F G k0 k' := by
 unfold Kz at h
 split at h
 ·rename_i S' hn
  obtain ⟨k', h1, h2, h3⟩ := Qq hs hn
  exact ⟨S', k', h, h1, h2, hle.trans h3 hent⟩
 ·cases h
theorem U5 {F : Fx} {G : Nat → Prop} {k0 k : K} {fr : List (Nat × AV)} {H : List (Nat × Ob)} {a : Act} {nt : Nat} (hs : Sim F k ⟨fr, H⟩ a nt) (hle : d_ F G k0 k) (id : Nat) : ∃ k', k'.w = k.w ∧ Sim F k' ⟨fr, U3 H id⟩ a nt ∧ d_ F G k0 k' := by
 have same : ∃ k', k'.w = k.w ∧ Sim F k' ⟨fr, H⟩ a nt ∧ d_ F G k0 k' := ⟨k, rfl, hs, hle⟩
 unfold U3
 split
 ·rename_i e r xs ns h hid
  split
  ·rename_i q hq
   have hS : k.h = lkH H := hs.hS
   rw [← hS] at hid hq
   obtain ⟨k', g1, g2, g3, g4, _⟩ := wY hs.hk hid hq
   refine ⟨k', g1, ⟨g3, ?_, hs.hf.le g4, hs.sz, hs.df⟩, hle.step g4⟩
   rw [g2]
   exact apE (S := ⟨fr, H⟩) hS q.2
  ·exact same
 ·exact same
theorem Iu {F : Fx} {G : Nat → Prop} {k0 : K} {fr : List (Nat × AV)} {a : Act} {nt : Nat} : ∀ (l : List Nat) {H : List (Nat × Ob)} {k : K}, Sim F k ⟨fr, H⟩ a nt → d_ F G k0 k → ∃ k', k'.w = k.w ∧ Sim F k' ⟨fr, WR l H⟩ a nt ∧ d_ F G k0 k'
 | [], H, k, hs, hle => ⟨k, rfl, hs, hle⟩
 | id :: l, H, k, hs, hle => by
  obtain ⟨k1, h1, h2, h3⟩ := U5 hs hle id
  obtain ⟨k2, h4, h5, h6⟩ := Iu l h2 h3
  exact ⟨k2, h4.trans h1, h5, h6⟩
theorem yY {F : Fx} {G : Nat → Prop} {k0 k : K} {S : St} {a : Act} {nt : Nat} (hs : Sim F k S a nt) (hle : d_ F G k0 k) : ∃ k', k'.w = k.w ∧ Sim F k' (je S) a nt ∧ d_ F G k0 k' := by
 unfold je
 split
 ·exact ⟨k, rfl, hs, hle⟩
 ·exact Iu _ (H := S.H) hs hle
theorem fZ {E : Env} (hE : II P E) {nt : Nat} {G : Nat → Prop} (hent : ∀ id, G id → id ∈ E.ent) {F : Fx} {k0 : K} :
 ∀ (c : Code) (blk : Nat) {ρ : Type} {r : ρ} {S : St} {kont : X → St → Option ρ} {k : K} {a : Act} {Q : Exit → Act → World → Prop}, code E c blk S kont = some r → lL nt c = true → Sim F k S a nt → d_ F G k0 k →
   (∀ x S' k' a', kont x S' = some r → Sim F k' S' a' nt → d_ F G k0 k' → Q (aqw x) a' k'.w) → c.wp P Q a k.w
 | .skip, blk, ρ, r, S, kont, k, a, Q, h, _, hs, hle, hQ => wp_skip (hQ .nrm S k a h hs hle)
 | .exit id, blk, ρ, r, S, kont, k, a, Q, h, _, hs, hle, hQ => wp_exit (hQ (.ex id) S k a h hs hle)
 | .ret, blk, ρ, r, S, kont, k, a, Q, h, _, hs, hle, hQ => wp_ret (hQ .rt S k a h hs hle)
 | .region id ops draw, blk, ρ, r, S, kont, k, a, Q, h, ho, hs, hle, hQ => by
  simp only [lL, Bool.and_eq_true, List.all_eq_true] at ho
  cases draw with
  | false =>
   have hQ' : ∀ S' k' a', kont .nrm (je S') = some r → Sim F k' S' a' nt → d_ F G k0 k' → Q .normal a' k'.w := fun S' k' a' h1 h2 h3 => by
    obtain ⟨k2, g1, g2, g3⟩ := yY h2 h3
    have := hQ .nrm (je S') k2 a' h1 g2 g3
    rw [g1] at this
    exact this
   unfold code at h
   dsimp only at h
   cases han : E.an (1000000 + id) with
   | none => rw [han] at h; exact wp_region_list (xJ hE hQ' ho.1 h hs hle)
   | some _ => rw [han] at h; exact wp_region_list (mQ hE hQ' ho.1 h hs hle)
  | true =>
   refine wp_region_any hE.mixed ?_
   obtain ⟨recs, Sn, h1, h2, h3, h4, h5⟩ := zt E ops.toList h
   have hz : ∀ j, (Array.replicate ops.size false).getD j false = false := by
    intro j
    by_cases hj : j < ops.size <;> simp [hj]
   have hdr := abJ hs
   refine aj_ hE (k0 := k0) (fun S' k' a' (h1 : kont .nrm (je S') = some r) h2 h3 => by
    obtain ⟨k2, g1, g2, g3⟩ := yY h2 h3
    have := hQ .nrm (je S') k2 a' h1 g2 g3
    rw [g1] at this
    exact this) h1 h2 h3 h4 (fun j rec hj j' rec' hlt hj' => by
    have := (h5 j rec hj).2 j' rec' hlt hj'
    simpa using this) (by simpa using ho.2) ho.1 ops.size _ k.drawn a (by simp) (by simp) (fun i o _ hl => by rw [hz] at hl; cases hl) ?_ (hle.step (Io F k))
   have e : (fun j => (Array.replicate ops.size false).getD j false) = fun _ => false := funext hz
   rw [e, zA]
   exact hdr
 | .seq x y, blk, ρ, r, S, kont, k, a, Q, h, ho, hs, hle, hQ => by
  simp only [lL, Bool.and_eq_true] at ho
  refine wp_seq (fZ hE hent x blk h ho.1 hs hle fun e S' k' a' h1 h2 h3 => ?_)
  cases e with
  | nrm => exact fZ hE hent y blk h1 ho.2 h2 h3 hQ
  | ex id => exact hQ (.ex id) S' k' a' h1 h2 h3
  | rt => exact hQ .rt S' k' a' h1 h2 h3
 | .cond c x y, blk, ρ, r, S, kont, k, a, Q, h, ho, hs, hle, hQ => by
  simp only [lL, Bool.and_eq_true] at ho
  cases c with
  | tmp t =>
   have h' : Hl S t (fun S => code E x blk S kont) (fun S => code E y blk S kont) = some r := h
   obtain ⟨b, hv, _, hb, hs'⟩ := xW hs h'
   refine wp_cond hv ?_
   cases b with
   | true => exact fZ hE hent x blk (by simpa using hb) ho.1 hs' hle hQ
   | false => exact fZ hE hent y blk (by simpa using hb) ho.2 hs' hle hQ
  | const v =>
   cases v with
   | bool b =>
    refine wp_cond (t := b) rfl ?_
    cases b with
    | true => exact fZ hE hent x blk h ho.1 hs hle hQ
    | false => exact fZ hE hent y blk h ho.2 hs hle hQ
   | _ => cases h
  | global g => cases h
  | func f => cases h
 | .block id c, blk, ρ, r, S, kont, k, a, Q, h, ho, hs, hle, hQ => by
  refine wp_block (fZ hE hent c id h ho hs hle fun e S' k' a' h1 h2 h3 => ?_)
  cases e with
  | nrm => exact hQ .nrm S' k' a' h1 h2 h3
  | rt => exact hQ .rt S' k' a' h1 h2 h3
  | ex j =>
   show (if j = id then Q .normal a' k'.w else Q (.exit j) a' k'.w)
   simp only [aqv] at h1
   cases hb : Nat.beq j id with
   | true =>
    rw [hb] at h1
    rw [if_pos (Nat.eq_of_beq_eq_true hb)]
    exact hQ .nrm S' k' a' h1 h2 h3
   | false =>
    rw [hb] at h1
    rw [if_neg (fun e => by rw [e, Nat.beq_refl] at hb; cases hb)]
    exact hQ (.ex j) S' k' a' h1 h2 h3
 | .loop c, blk, ρ, r, S, kont, k, a, Q, h, ho, hs, hle, hQ => by
  simp only [code] at h
  split at h
  ·rename_i an han
   obtain ⟨S1, k1, h1, hw, hs1, hle1⟩ := l9 hent hs hle h
   rw [← hw]
   refine wp_loop_ghost (fun n a w => ∃ S k, k.w = w ∧ Sim F k S a nt ∧ d_ F G k0 k ∧ iter E.ent an (code E c blk) n S kont = some r) (n := E.N) ⟨S1, k1, rfl, hs1, hle1, h1⟩ ?_
   rintro n a w ⟨S, k, rfl, hs, hle, h⟩
   cases n with
   | zero => cases h
   | succ n =>
    refine fZ hE hent c blk h ho hs hle fun e S' k' a' h1 h2 h3 => ?_
    cases e with
    | nrm =>
     obtain ⟨S2, k2, h4, h5, h6, h7⟩ := l9 hent h2 h3 h1
     exact ⟨n, Nat.lt_succ_self n, S2, k2, h5, h6, h7, h4⟩
    | ex id =>
     simp only [KX] at h1
     split at h1
     ·obtain ⟨S2, k2, h4, h5, h6, h7⟩ := l9 hent h2 h3 h1
      have := hQ (.ex id) S2 k2 a' h4 h6 h7
      rw [h5] at this
      exact this
     ·cases h1
    | rt =>
     obtain ⟨S2, k2, h4, h5, h6, h7⟩ := l9 hent h2 h3 h1
     have := hQ .rt S2 k2 a' h4 h6 h7
     rw [h5] at this
     exact this
  ·cases h
 | .rangeFunc .., _, _, _, _, _, _, _, _, h, _, _, _, _ => by cases h
 | .label .., _, _, _, _, _, _, _, _, h, _, _, _, _ => by cases h
 | .goto .., _, _, _, _, _, _, _, _, h, _, _, _, _ => by cases h
 | .scope .., _, _, _, _, _, _, _, _, h, _, _, _, _ => by cases h
end mem
end Go.MC
namespace Go.MC
open Go.RowKit
section mem
variable {P : Program}
structure bI (P : Program) (g : Nat) (f : FI) : Prop where
 is : ∃ fn, P.funcs[g]? = some fn ∧ fn.body = some f.body ∧ fn.results.toList = f.res ∧ fn.ntmps = f.ntmps ∧ (fn.name == "runtime.NumGoroutine") = false
 code : lL f.ntmps f.body = true
theorem bI.calls {g : Nat} {f : FI} (h : bI P g f) (args : Array Value) (w : World) : (callFunc g args).run P w = .ok (.enter g args) w := by
 obtain ⟨fn, h1, h2, _, _, h3⟩ := h.is
 have h3 : ¬ (fn.name == "runtime.NumGoroutine") = true := by rw [h3]; simp
 unfold callFunc
 simp only [Sem.run_bind, run_program, Result.andThen_ok, h1]
 rw [if_neg h3, if_neg (by rw [h2]; simp)]
 rfl
theorem LG {F : Fx} {k : K} : ∀ {vs : List AV} {args : List Value}, dw.relAs F k vs args → ∀ (i t : Nat), lkF (slots i vs) t = .w (.one .u) ∨ ∃ v x, t = i + (t - i) ∧ lkF (slots i vs) t = v ∧ args[t - i]? = some x ∧ iq F k v x
 | [], _, _, i, t => .inl rfl
 | v :: vs, args, h, i, t => by
  obtain ⟨x, xs, rfl, h1, h2⟩ := h
  simp only [slots, sF]
  by_cases ht : t = i
  ·subst ht
   exact .inr ⟨v, x, by omega, by simp, by simp, h1⟩
  ·rw [if_neg ht]
   rcases LG h2 (i + 1) t with h3 | ⟨v', x', h3, h4, h5, h6⟩
   ·exact .inl h3
   ·refine .inr ⟨v', x', by omega, h4, ?_, h6⟩
    rw [show t - i = (t - (i + 1)) + 1 by omega]
    simpa using h5
theorem xh {F : Fx} {k : K} : ∀ {vs : List AV} {args : List Value}, dw.relAs F k vs args → args.length = vs.length
 | [], _, h => by simp only [dw.relAs] at h; subst h; rfl
 | _ :: _, _, h => by obtain ⟨x, xs, rfl, _, h2⟩ := h; simp [xh h2]
theorem PW {F : Fx} {k : K} {S : St} {a : Act} {nt : Nat} (hs : Sim F k S a nt) {TT : Nat → Option TD} (hTT : zo P TT) {r : ResultVar} {v : V1} (h : Oa TT S r = some v) :
 ∃ x, ((match r with
   | .tmp t => pure (a.tmps.getD t undef)
   | .cell ad t => do loadVar t (← asAddr (a.tmps.getD ad undef))) : Sem Value).run P k.w = .ok x k.w ∧ su F k v x := by
 cases r with
 | tmp t =>
  simp only [Oa] at h
  have hr := hs.hf t
  split at h
  ·rename_i v' hv
   simp only [Option.some.injEq] at h
   subst h
   rw [hv] at hr
   exact ⟨_, rfl, hr⟩
  ·cases h
 | cell t T =>
  simp only [Oa] at h
  have hr := hs.hf t
  split at h
  ·rename_i id td hv ht
   rw [hv] at hr
   obtain ⟨⟨cs0, hc0⟩, hp⟩ := hr
   have hp : a.tmps.getD t undef = .pointer (some ⟨k.μ id, 0, none⟩) := hp
   have htd := hTT _ _ ht
   rw [← hs.hS] at h
   have cellsAt : ∀ {cs : List C}, k.h id = some (.box cs) → ∃ vs, bK F k cs vs ∧ b_ k.w ⟨k.μ id, 0, none⟩ vs := by
    intro cs hc
    obtain ⟨vs, T', h1, h2⟩ := hs.hk.obj id _ hc
    refine ⟨vs, h2, ?_⟩
    have := zq (w := k.w) (u := []) (c := vs) (v := []) (T := T') (fr := (0, 0)) (by simpa using h1)
    simpa using this
   have run : ∀ {x : Value}, (loadVar T ⟨k.μ id, 0, none⟩).run P k.w = .ok x k.w → ((do loadVar T (← asAddr (a.tmps.getD t undef))) : Sem Value).run P k.w = .ok x k.w := by
    intro x hx
    rw [hp]
    simp [asAddr, hx]
   split at h
   ·rename_i cs hc ha
    cases hb : Nat.beq cs.length td.sz with
    | false => rw [hb] at h; cases h
    | true =>
     rw [hb] at h
     simp only [cond_true, Option.some.injEq] at h
     subst h
     obtain ⟨vs, h1, h2⟩ := cellsAt hc
     exact ⟨_, run (jZ htd ha h2 (by rw [h1.length]; exact Nat.eq_of_beq_eq_true hb)), vs, rfl, h1⟩
   ·rename_i c hc ha
    cases hb : Nat.beq 1 td.sz with
    | false => rw [hb] at h; cases h
    | true =>
     rw [hb] at h
     simp only [cond_true, Option.some.injEq] at h
     subst h
     obtain ⟨vs, h1, h2⟩ := cellsAt hc
     obtain ⟨x, xs, rfl, h3, h4⟩ := h1
     simp only [bK] at h4
     subst h4
     exact ⟨x, run (iF htd ha h2), h3⟩
   ·cases h
  ·cases h
theorem uV {F : Fx} {k : K} {S : St} {a : Act} {nt : Nat} (hs : Sim F k S a nt) {TT : Nat → Option TD} (hTT : zo P TT) : ∀ {rs : List ResultVar} {vs : List V1}, ru TT S rs = some vs →
 ∃ xs, (rs.mapM (fun (r : ResultVar) => (match r with
   | .tmp t => pure (a.tmps.getD t undef)
   | .cell ad t => do loadVar t (← asAddr (a.tmps.getD ad undef)) : Sem Value))).run P k.w = .ok xs k.w ∧ fQ F k vs xs
 | [], vs, h => by
  simp only [ru, Option.some.injEq] at h
  subst h
  exact ⟨[], by simp, rfl⟩
 | r :: rs, vs, h => by
  simp only [ru] at h
  split at h
  ·rename_i v vs' h1 h2
   simp only [Option.some.injEq] at h
   subst h
   obtain ⟨x, h3, h4⟩ := PW hs hTT h1
   obtain ⟨xs, h5, h6⟩ := uV hs hTT h2
   refine ⟨x :: xs, ?_, x, xs, rfl, h4, h6⟩
   rw [List.mapM_cons]
   simp only [Sem.run_bind, h3, h5, Result.andThen_ok, Sem.run_pure]
  ·cases h
theorem Js {F : Fx} {k : K} {S : St} {a : Act} {nt : Nat} (hs : Sim F k S a nt) {TT : Nat → Option TD} (hTT : zo P TT) {fn : Func} {vs : List V1} (h : ru TT S fn.results.toList = some vs) :
 ∃ x, (results fn a.tmps).run P k.w = .ok x k.w ∧ iq F k (adA vs) x := by
 obtain ⟨xs, h1, h2⟩ := uV hs hTT h
 refine ⟨if h : xs.toArray.size = 1 then xs.toArray[0] else .tuple xs.toArray, ?_, ?_⟩
 ·unfold results
  rw [Array.mapM_eq_mapM_toList]
  have h3 : ((List.toArray <$> (fn.results.toList.mapM (fun (r : ResultVar) => (match r with
   | .tmp t => pure (a.tmps.getD t undef)
   | .cell ad t => do loadVar t (← asAddr (a.tmps.getD ad undef)) : Sem Value)))) : Sem (Array Value)).run P k.w = .ok xs.toArray k.w := by
   simp only [map_eq_pure_bind, Sem.run_bind, h1, Result.andThen_ok, Sem.run_pure]
  rw [Sem.run_bind]
  refine (congrArg (fun r => Result.andThen r _) h3).trans ?_
  rfl
 ·cases vs with
  | nil => simp only [fQ] at h2; subst h2; exact ⟨[], rfl, rfl⟩
  | cons v vs =>
   obtain ⟨x, xs', rfl, h3, h4⟩ := h2
   cases vs with
   | nil => simp only [fQ] at h4; subst h4; exact h3
   | cons v' vs =>
    obtain ⟨x', xs2, rfl, h5, h6⟩ := h4
    rw [dif_neg (by simp)]
    exact ⟨_, rfl, x, _, rfl, h3, x', _, rfl, h5, h6⟩
theorem UE {TT : Nat → Option TD} {Φ : Nat → Option ax} {inl : (ρ : Type) → Nat → List AV → List (Nat × Ob) → (AV → List (Nat × Ob) → Option ρ) → Option ρ} {N : Nat} (hTT : zo P TT) (hΦ : dw P Φ) (hinl : Ia P inl) (hm : P.follows .mixedOrders = true)
 {g : Nat} {f : FI} (hf : bI P g f) {ρ : Type} {r : ρ} {ent : List Nat} {vs : List AV} {H : List (Nat × Ob)} {kont : AV → List (Nat × Ob) → Option ρ} (h : arB TT Φ inl N f ent vs H kont = some r)
 {F : Fx} {k : K} {args : List Value} (hk : aI F k) (hS : k.h = lkH H) (ha : dw.relAs F k vs args) (hl : vs.length ≤ f.ntmps) {R : Ending → World → Prop}
 (hR : ∀ v av k' H', kont av H' = some r → k'.h = lkH H' → aI F k' → d_ F (· ∈ ent) k k' → iq F k' av v → R (.returned v) k'.w) : Calls P g args.toArray k.w R := by
 obtain ⟨fn, h1, h2, h3, h4, _⟩ := hf.is
 have hal := xh ha
 refine calls_of_wp h1 h2 (fZ (E := { TT := TT, Φ := Φ, inl := inl, an := f.an, ent := ent, N := N }) ⟨hTT, hΦ, hinl, hm⟩ (nt := f.ntmps) (G := (· ∈ ent)) (fun _ h => h) f.body 0 (k0 := k) h hf.code ?_ ((Le.refl F k).on _) ?_)
 ·refine ⟨hk, hS, fun t => ?_, ?_, rfl⟩
  ·rcases LG ha 0 t with h5 | ⟨v, x, _, h6, h7, h8⟩
   ·show iq F k (lkF (slots 0 vs) t) _
    rw [h5]; trivial
   ·show iq F k (lkF (slots 0 vs) t) _
    rw [h6]
    have : (Act.eval ⟨args.toArray ++ Array.replicate (fn.ntmps - args.toArray.size) undef, []⟩ (.tmp t)) = x := by
     simp only [Nat.sub_zero] at h7
     have hlt := (List.getElem?_eq_some_iff.1 h7).1
     simp only [Act.eval, Array.getD_eq_getD_getElem?]
     rw [Array.getElem?_append_left (by simpa using hlt)]
     simp [h7]
    rw [this]
    exact h8
  ·simp [h4]
   omega
 ·intro x S' k' a' h5 h6 h7
  have fin : ∀ {vs : List V1}, ru TT S' f.res = some vs → kont (adA vs) S'.H = some r → a'.defers = [] ∧ ∃ v, (results fn a'.tmps).run P k'.w = .ok v k'.w ∧ R (.returned v) k'.w := by
   intro vs hv hr
   rw [← h3] at hv
   obtain ⟨v, h8, h9⟩ := Js h6 hTT hv
   exact ⟨h6.df, v, h8, hR v _ k' _ hr h6.hS h6.hk h7 h9⟩
  cases x with
  | ex id => cases h5
  | nrm =>
   simp only [dE] at h5
   split at h5
   ·rename_i vs hv; exact fin hv h5
   ·cases h5
  | rt =>
   simp only [dE] at h5
   split at h5
   ·rename_i vs hv; exact fin hv h5
   ·cases h5
end mem
end Go.MC
namespace Go.MC
open Go.RowKit
def shape (agg : Bool) (vs : List Value) (v : Value) : Prop := if agg = true then v = .agg vs.toArray else vs = [v]
theorem fG.move {w w' : World} {ok ok' : Nat → Prop} {base : Nat} {r : Ty} {o : Option (List Nat)} (ho : ∀ c, ok c → ok' c) (hw : ∀ c, ok c → c < w.heap.size → w'.heap[c]? = w.heap[c]?) {xs : List r.den} {vs : List Value} {bl : List Nat} (h : fG w ok base r o xs vs bl) (hb : ∀ b ∈ bl, w'.heap[b]? = w.heap[b]?) : fG w' ok' base r o xs vs bl := by
 cases o with
 | none => exact ⟨h.1.mono ho hw, h.2⟩
 | some ns => exact OwnRows.move ho hw h hb
theorem fG.mono {w : World} {ok ok' : Nat → Prop} {base : Nat} {r : Ty} {o : Option (List Nat)} (ho : ∀ c, ok c → ok' c) {xs : List r.den} {vs : List Value} {bl : List Nat} (h : fG w ok base r o xs vs bl) : fG w ok' base r o xs vs bl := h.move ho (fun _ _ _ => rfl) fun _ _ => rfl
theorem fG.base {w : World} {ok : Nat → Prop} {base base' : Nat} (hb : base' ≤ base) {r : Ty} {o : Option (List Nat)} {xs : List r.den} {vs : List Value} {bl : List Nat} (h : fG w ok base r o xs vs bl) : fG w ok base' r o xs vs bl := by
 cases o with
 | none => exact h
 | some ns => exact OwnRows.base hb h
theorem fG.rd {w : World} {ok ok' : Nat → Prop} {base : Nat} {r : Ty} {o : Option (List Nat)} (ho : ∀ c, ok c → ok' c) {xs : List r.den} {vs : List Value} {bl : List Nat} (h : fG w ok base r o xs vs bl) (hb : ∀ b ∈ bl, ok' b) : bu w ok' r xs vs := by
 cases o with
 | none => exact h.1.mono ho fun _ _ _ => rfl
 | some ns => exact OwnRows.rd ho h hb
theorem fG.fit {w : World} {ok : Nat → Prop} {base : Nat} {r : Ty} {o : Option (List Nat)} {xs : List r.den} {vs : List Value} {bl : List Nat} (h : fG w ok base r o xs vs bl) : ∀ x ∈ xs, Fit r x := (h.rd (ok' := fun _ => True) (fun _ _ => trivial) fun _ _ => trivial).fit
theorem fG.flat {w : World} {ok ok' : Nat → Prop} {base : Nat} {r : Ty} (hf : r.flat = true) {o : Option (List Nat)} {xs : List r.den} {vs : List Value} {bl : List Nat} (h : fG w ok base r o xs vs bl) : fG w ok' base r o xs vs bl := by
 cases o with
 | none =>
  refine ⟨?_, h.2⟩
  have := h.1
  clear h
  induction xs generalizing vs with
  | nil => exact this
  | cons x xs ih =>
   obtain ⟨v1, v2, rfl, h1, h2⟩ := this
   exact ⟨v1, v2, rfl, h1.flat hf, ih h2⟩
 | some ns =>
  have : ∀ {xs : List r.den} {vs : List Value} {bl : List Nat}, OwnRows w ok base r ns xs vs bl → OwnRows w ok' base r ns xs vs bl := by
   intro xs
   induction xs with
   | nil => exact fun h => h
   | cons x xs ih =>
    rintro vs bl ⟨v1, v2, o1, o2, rfl, h1, h2, rfl⟩
    obtain ⟨h3, h4⟩ := wU hf h1
    have hr := h1.rd (ok' := fun _ => True) (fun _ _ => trivial) fun _ _ => trivial
    subst h3 h4
    exact ⟨v1, v2, [], o2, rfl, jG [] hf (hr.flat hf), ih h2, rfl⟩
  exact this h
theorem Eb {d : Dp} {o : Option (List Nat)} (h : SY d o = true) : d = dpO o := by
 unfold SY at h
 split at h
 ·rfl
 ·rw [of_decide_eq_true h]; rfl
 ·cases h
def nbK (k : K) (id : Nat) : Option (List Nat) → List Nat
 | none => []
 | some _ => k.nb id
theorem Qj {F : Fx} {k : K} (hk : aI F k) {id e : Nat} {r : Ty} {xs : List r.den} {o : Option (List Nat)} (h : k.h id = some (.arr e r xs (dpO o))) : ∃ us bl, cZ k.w (F.bs id) e r.sz (k.ν id) xs.length us ∧ fG k.w (k.ok F) (F.bs id) r o xs us bl ∧ xs.length ≤ lim ∧ (∀ b, k.own id b ↔ b ∈ (ownB (k.ν id)).toList ++ bl) ∧ ((ownB (k.ν id)).toList ++ bl).Nodup ∧ bl = nbK k id o := by
 cases o with
 | none =>
  obtain ⟨us, h1, h2, h3⟩ := hk.obj id _ h
  refine ⟨us, [], h1, ⟨h2, rfl⟩, h3, fun b => ?_, by cases ownB (k.ν id) <;> simp, rfl⟩
  rw [wJ h]
  simp
 | some ns =>
  obtain ⟨us, us', h1, h2, h3, h4, h5⟩ := hk.obj id _ h
  obtain rfl : us' = us := h5
  refine ⟨us', k.nb id, h1, h2, h3, fun b => ?_, h4, rfl⟩
  rw [dZ h]
  simp
inductive HV where
 | bx (b : Nat)
 | ow (v : Value)
 | mv
def jd (w : World) (ok : Nat → Prop) : List PS → List Value → List Dv → List HV → List Nat → Prop
 | [], vs, ds, hv, bs => vs = [] ∧ ds = [] ∧ hv = [] ∧ bs = []
 | .d t agg :: ps, vs, ds, hv, bs => ∃ v vs' x ds' cs, vs = v :: vs' ∧ ds = ⟨t, x⟩ :: ds' ∧ Rd w ok t x cs ∧ shape agg cs v ∧ jd w ok ps vs' ds' hv bs
 | .bx t :: ps, vs, ds, hv, bs => ∃ b vs' x ds' cs T hv' bs', vs = .pointer (some ⟨b, 0, none⟩) :: vs' ∧ ds = ⟨t, x⟩ :: ds' ∧ hv = .bx b :: hv' ∧ bs = [b] ++ bs' ∧ w.heap[b]? = some (.cells cs.toArray T (0, 0)) ∧ Rd w ok t x cs ∧ jd w ok ps vs' ds' hv' bs'
 | .ow e r o :: ps, vs, ds, hv, bs => ∃ v vs' xs ds' us bl hv' bs', vs = v :: vs' ∧ ds = ⟨.slice r, xs⟩ :: ds' ∧ hv = .ow v :: hv' ∧ bs = ((ownB v).toList ++ bl) ++ bs' ∧ cZ w 0 e r.sz v xs.length us ∧ fG w ok 0 r o xs us bl ∧ xs.length ≤ lim ∧ jd w ok ps vs' ds' hv' bs'
 | .mv e r o :: ps, vs, ds, hv, bs => ∃ v vs' xs ds' us bl hv' bs', vs = v :: vs' ∧ ds = ⟨.slice r, xs⟩ :: ds' ∧ hv = .mv :: hv' ∧ bs = ((ownB v).toList ++ bl) ++ bs' ∧ cZ w 0 e r.sz v xs.length us ∧ fG w ok 0 r o xs us bl ∧ xs.length ≤ lim ∧ jd w ok ps vs' ds' hv' bs'
 | .sp _ :: _, _, _, _, _ => False
 | .cl _ _ :: _, _, _, _, _ => False
 | .cr _ _ :: _, _, _, _, _ => False
 | .rx t :: ps, vs, ds, hv, bs => ∃ b vs' x ds' cs T, vs = .pointer (some ⟨b, 0, none⟩) :: vs' ∧ ds = ⟨t, x⟩ :: ds' ∧ ok b ∧ w.heap[b]? = some (.cells cs.toArray T (0, 0)) ∧ Rd w ok t x cs ∧ jd w ok ps vs' ds' hv bs
def kz (w : World) (ok : Nat → Prop) (base : Nat) : List RS → List Value → List Dv → List Dv → List Nat → Prop
 | [], vs, ds, ds', os => vs = [] ∧ ds' = ds ∧ os = []
 | .any :: rs, vs, ds, ds', os => ∃ v vs', vs = v :: vs' ∧ kz w ok base rs vs' ds ds' os
 | .d t agg :: rs, vs, ds, ds', os => ∃ v vs' x d cs, vs = v :: vs' ∧ ds = ⟨t, x⟩ :: d ∧ Rd w ok t x cs ∧ shape agg cs v ∧ kz w ok base rs vs' d ds' os
 | .own t agg es :: rs, vs, ds, ds', os => ∃ v vs' x d cs o1 o2, vs = v :: vs' ∧ ds = ⟨t, x⟩ :: d ∧ iY w ok base t x es cs [] o1 ∧ shape agg cs v ∧ kz w ok base rs vs' d ds' o2 ∧ os = o1 ++ o2
def vk (w : World) (ok : Nat → Prop) : List PS → List HV → List Dv → List Nat → Prop
 | [], hv, ds, bs => hv = [] ∧ ds = [] ∧ bs = []
 | .d _ _ :: ps, hv, ds, bs => vk w ok ps hv ds bs
 | .bx t :: ps, hv, ds, bs => ∃ b hv' x ds' cs T bs', hv = .bx b :: hv' ∧ ds = ⟨t, x⟩ :: ds' ∧ bs = [b] ++ bs' ∧ w.heap[b]? = some (.cells cs.toArray T (0, 0)) ∧ Rd w ok t x cs ∧ vk w ok ps hv' ds' bs'
 | .ow e r o :: ps, hv, ds, bs => ∃ v hv' xs ds' us bl bs', hv = .ow v :: hv' ∧ ds = ⟨.slice r, xs⟩ :: ds' ∧ bs = ((ownB v).toList ++ bl) ++ bs' ∧ cZ w 0 e r.sz v xs.length us ∧ fG w ok 0 r o xs us bl ∧ xs.length ≤ lim ∧ vk w ok ps hv' ds' bs'
 | .mv _ _ _ :: ps, hv, ds, bs => ∃ hv', hv = .mv :: hv' ∧ vk w ok ps hv' ds bs
 | .sp _ :: _, _, _, _ => False
 | .cl _ _ :: _, _, _, _ => False
 | .cr _ _ :: _, _, _, _ => False
 | .rx _ :: ps, hv, ds, bs => vk w ok ps hv ds bs
def rH : List PS → List Value → List Value → Prop
 | [], vs, us => vs = [] ∧ us = []
 | .cl g ts :: ps, vs, us => ∃ caps vs' us', vs = .func (.func g) #[] caps.toArray :: vs' ∧ us = caps ++ us' ∧ caps.length = ts.length ∧ rH ps vs' us'
 | .d _ _ :: ps, vs, us => ∃ v vs' us', vs = v :: vs' ∧ us = v :: us' ∧ rH ps vs' us'
 | .cr g ts :: ps, vs, us => ∃ caps vs' us', vs = .func (.func g) #[] caps.toArray :: vs' ∧ us = caps ++ us' ∧ caps.length = ts.length ∧ rH ps vs' us'
 | .rx _ :: ps, vs, us => ∃ v vs' us', vs = v :: vs' ∧ us = v :: us' ∧ rH ps vs' us'
 | .bx _ :: ps, vs, us => ∃ v vs' us', vs = v :: vs' ∧ us = v :: us' ∧ rH ps vs' us'
 | .ow _ _ _ :: ps, vs, us => ∃ v vs' us', vs = v :: vs' ∧ us = v :: us' ∧ rH ps vs' us'
 | .mv _ _ _ :: ps, vs, us => ∃ v vs' us', vs = v :: vs' ∧ us = v :: us' ∧ rH ps vs' us'
 | .sp l :: ps, vs, us => ∃ cs vs' us', vs = .agg cs.toArray :: vs' ∧ us = cs ++ us' ∧ cs.length = l.length ∧ rH ps vs' us'
def uh : List Value → Value
 | [v] => v
 | vs => .tuple vs.toArray
def au (P : Program) (g : Nat) (s : ax) : Prop :=
 (∀ (args : Array Value) (w : World), (callFunc g args).run P w = .ok (.enter g args) w) ∧
 ∀ (w : World) (ok : Nat → Prop) (args fargs : List Value) (ds : List Dv) (hv : List HV) (bs : List Nat), rH s.ps args fargs → jd w ok (mr s.ps) fargs ds hv bs → bs.Nodup → (∀ b ∈ bs, b < w.heap.size ∧ ¬ ok b) → (∀ b, ok b → b < w.heap.size) → GV w ok → s.pre ds = true →
   Calls P g args.toArray w fun e w' => ∃ vs rest own bs', e = .returned (uh vs) ∧ w.heap.size ≤ w'.heap.size ∧ (∀ b, b < w.heap.size → b ∉ bs → w'.heap[b]? = w.heap[b]?) ∧ w'.os = w.os ∧ w'.tape = w.tape ∧ w'.output = w.output ∧
    (own ++ bs').Nodup ∧ (∀ b ∈ own, b ∈ bs ∨ (w.heap.size ≤ b ∧ b < w'.heap.size)) ∧ (∀ b ∈ bs', b ∈ bs ∨ (w.heap.size ≤ b ∧ b < w'.heap.size)) ∧
    kz w' (fun b => ok b ∨ ((w.heap.size ≤ b ∨ b ∈ bs) ∧ b < w'.heap.size ∧ b ∉ own ++ bs')) 0 s.rs vs (s.out ds) rest own ∧
    vk w' (fun b => ok b ∨ ((w.heap.size ≤ b ∨ b ∈ bs) ∧ b < w'.heap.size ∧ b ∉ own ++ bs')) (mr s.ps) hv rest bs'
theorem sZ {w w' : World} {ok ok' : Nat → Prop} {r : Ty} (hf : r.flat = true) : ∀ {xs : List r.den} {vs : List Value}, bu w ok r xs vs → bu w' ok' r xs vs
 | [], _, h => h
 | _ :: _, _, h => by
  obtain ⟨v1, v2, rfl, h1, h2⟩ := h
  exact ⟨v1, v2, rfl, h1.flat hf, sZ hf h2⟩
theorem dH.flat1 {w : World} {ok ok' : Nat → Prop} {base : Nat} : ∀ {t : Ty} {x : t.den} {es : List Nat} {vs : List Value} {es' os : List Nat}, t.flat1 = true → dH w ok base t x es vs es' os → dH w ok' base t x es vs es' os
 | .bool, _, _, _, _, _, _, h => h
 | .int _, _, _, _, _, _, _, h => h
 | .str, _, _, _, _, _, _, h => h
 | .slice _, _, _, _, _, _, hf, h => by
  obtain ⟨e, v, us, h1, h2, h3, h4, h5, h6⟩ := h
  exact ⟨e, v, us, h1, h2, h3, sZ hf h4, h5, h6⟩
 | .pair a b, _, _, _, _, _, hf, h => by
  simp only [Ty.flat1, Bool.and_eq_true] at hf
  obtain ⟨v1, v2, es1, o1, o2, rfl, h1, h2, rfl⟩ := h
  exact ⟨v1, v2, es1, o1, o2, rfl, dH.flat1 hf.1 h1, dH.flat1 hf.2 h2, rfl⟩
theorem uZ {w : World} {ok ok' : Nat → Prop} {base : Nat} {r : Ty} {ns : List Nat} (hf : r.flat1 = true) : ∀ {xs : List r.den} {vs : List Value} {os : List Nat}, OwnRows w ok base r ns xs vs os → OwnRows w ok' base r ns xs vs os
 | [], _, _, h => h
 | _ :: _, _, _, h => by
  obtain ⟨v1, v2, o1, o2, rfl, h1, h2, rfl⟩ := h
  exact ⟨v1, v2, o1, o2, rfl, h1.flat1 hf, uZ hf h2, rfl⟩
theorem iY.self {w : World} {ok ok' : Nat → Prop} {base : Nat} : ∀ {t : Ty} {x : t.den} {es es1 : List (Nat × Option (List Nat))} {vs : List Value} {es' : List (Nat × Option (List Nat))} {os : List Nat}, xG t es = some es1 → iY w ok base t x es vs es' os → es' = es1 ∧ iY w ok' base t x es vs es' os
 | .bool, _, _, _, _, _, _, hf, h => by
  simp only [xG, Option.some.injEq] at hf
  exact ⟨h.1.trans hf, h⟩
 | .int _, _, _, _, _, _, _, hf, h => by
  simp only [xG, Option.some.injEq] at hf
  exact ⟨h.1.trans hf, h⟩
 | .str, _, _, _, _, _, _, hf, h => by
  simp only [xG, Option.some.injEq] at hf
  exact ⟨h.1.trans hf, h⟩
 | .slice r, _, _, _, _, _, _, hf, h => by
  obtain ⟨e, v, us, bl, rfl, rfl, h3, h4, h5, h6⟩ := h
  obtain ⟨e1, o⟩ := e
  simp only [xG] at hf
  cases o with
  | none =>
   dsimp only at hf
   cases hr : r.flat with
   | false => rw [hr] at hf; cases hf
   | true =>
    rw [hr] at hf
    cases hf
    exact ⟨rfl, _, v, us, bl, rfl, rfl, h3, ⟨sZ hr h4.1, h4.2⟩, h5, h6⟩
  | some ns =>
   dsimp only at hf
   cases hr : r.flat1 with
   | false => rw [hr] at hf; cases hf
   | true =>
    rw [hr] at hf
    cases hf
    exact ⟨rfl, _, v, us, bl, rfl, rfl, h3, uZ hr h4, h5, h6⟩
 | .pair a b, _, _, _, _, _, _, hf, h => by
  obtain ⟨v1, v2, es2, o1, o2, rfl, h1, h2, rfl⟩ := h
  simp only [xG] at hf
  split at hf
  ·rename_i es3 h3
   obtain ⟨rfl, h4⟩ := iY.self (ok' := ok') h3 h1
   obtain ⟨rfl, h5⟩ := iY.self (ok' := ok') hf h2
   exact ⟨rfl, v1, v2, _, o1, o2, rfl, h4, h5, rfl⟩
  ·cases hf
theorem kz.flat {w : World} {ok ok' : Nat → Prop} {base : Nat} : ∀ {rs : List RS} {vs : List Value} {ds ds' : List Dv} {os : List Nat}, rs.all RS.flat = true → kz w ok base rs vs ds ds' os → kz w ok' base rs vs ds ds' os
 | [], _, _, _, _, _, h => h
 | .any :: rs, _, _, _, _, hf, h => by
  simp only [List.all_cons, Bool.and_eq_true] at hf
  obtain ⟨v, vs', rfl, h1⟩ := h
  exact ⟨v, vs', rfl, kz.flat hf.2 h1⟩
 | .d t agg :: rs, _, _, _, _, hf, h => by
  simp only [List.all_cons, Bool.and_eq_true] at hf
  obtain ⟨v, vs', x, d, cs, rfl, rfl, h1, h2, h3⟩ := h
  exact ⟨v, vs', x, d, cs, rfl, rfl, h1.flat hf.1, h2, kz.flat hf.2 h3⟩
 | .own t agg es :: rs, _, _, _, _, hf, h => by
  simp only [List.all_cons, Bool.and_eq_true] at hf
  obtain ⟨v, vs', x, d, cs, o1, o2, rfl, rfl, h1, h2, h3, rfl⟩ := h
  obtain ⟨es1, he⟩ := Option.isSome_iff_exists.1 hf.1
  exact ⟨v, vs', x, d, cs, o1, o2, rfl, rfl, (iY.self he h1).2, h2, kz.flat hf.2 h3, rfl⟩
theorem mW : ∀ {l : List Nat}, iR l = true → l.Nodup
 | [], _ => List.nodup_nil
 | i :: l, h => by
  simp only [iR, Bool.and_eq_true, Bool.not_eq_true'] at h
  refine List.nodup_cons.2 ⟨fun hm => ?_, mW h.2⟩
  have : (l.any fun j => Nat.beq j i) = true := List.any_eq_true.2 ⟨i, hm, Nat.beq_refl _⟩
  rw [this] at h
  cases h.1
section mem
variable {P : Program}
theorem kV {F : Fx} {k : K} {cs : List C} {v : Value} (h : su F k (.agg cs) v) : ∃ vs, shape true vs v ∧ bK F k cs vs := by
 obtain ⟨vs, h1, h2⟩ := h
 exact ⟨vs, by simpa [shape] using h1, h2⟩
def BB (k : K) (p : Nat × Hd) : Prop := match p.2 with
 | .bx _ => ∃ cs, k.h p.1 = some (.box cs)
 | .ow e r o => ∃ xs, k.h p.1 = some (.arr e r xs (dpO o))
 | .mv e r o => ∃ xs, k.h p.1 = some (.arr e r xs (dpO o))
def hvK (k : K) (p : Nat × Hd) : HV := match p.2 with
 | .bx _ => .bx (k.μ p.1)
 | .ow _ _ _ => .ow (k.ν p.1)
 | .mv _ _ _ => .mv
def bsK (k : K) (p : Nat × Hd) : List Nat := match p.2 with
 | .bx _ => [k.μ p.1]
 | .ow _ _ o => (ownB (k.ν p.1)).toList ++ nbK k p.1 o
 | .mv _ _ o => (ownB (k.ν p.1)).toList ++ nbK k p.1 o
def bkK (k : K) (p : Nat × Hd) : List Nat := match p.2 with
 | .mv _ _ _ => []
 | _ => bsK k p
def Jd : List PS → List (Nat × Hd) → Prop
 | [], bxs => bxs = []
 | .d _ _ :: ps, bxs => Jd ps bxs
 | .bx t :: ps, bxs => ∃ id l, bxs = (id, .bx t) :: l ∧ Jd ps l
 | .ow e r o :: ps, bxs => ∃ id l, bxs = (id, .ow e r o) :: l ∧ Jd ps l
 | .mv e r o :: ps, bxs => ∃ id l, bxs = (id, .mv e r o) :: l ∧ Jd ps l
 | .sp _ :: _, _ => False
 | .cl _ _ :: _, _ => False
 | .cr _ _ :: _, _ => False
 | .rx _ :: ps, bxs => Jd ps bxs
theorem qH {k : K} {p : Nat × Hd} (h : BB k p) (b : Nat) : k.own p.1 b ↔ b ∈ bsK k p := by
 obtain ⟨id, hd⟩ := p
 cases hd with
 | bx t =>
  obtain ⟨cs, h⟩ := h
  dsimp only at h
  unfold K.own
  rw [h]
  simp [bsK, eq_comm]
 | ow e r o =>
  obtain ⟨xs, h⟩ := h
  dsimp only at h
  cases o with
  | none => rw [wJ h]; simp [bsK, nbK]
  | some ns => rw [dZ h]; simp [bsK, nbK]
 | mv e r o =>
  obtain ⟨xs, h⟩ := h
  dsimp only at h
  cases o with
  | none => rw [wJ h]; simp [bsK, nbK]
  | some ns => rw [dZ h]; simp [bsK, nbK]
theorem Bg {F : Fx} {k : K} (hk : aI F k) {p : Nat × Hd} (h : BB k p) : (bsK k p).Nodup := by
 obtain ⟨id, hd⟩ := p
 cases hd with
 | bx t => simp [bsK]
 | ow e r o =>
  obtain ⟨xs, h⟩ := h
  obtain ⟨us, bl, _, _, _, _, h1, h2⟩ := Qj hk h
  have : bl = nbK k id o := h2
  have e1 : bsK k (id, Hd.ow e r o) = (ownB (k.ν id)).toList ++ bl := by rw [this]; rfl
  rw [e1]
  exact h1
 | mv e r o =>
  obtain ⟨xs, h⟩ := h
  obtain ⟨us, bl, _, _, _, _, h1, h2⟩ := Qj hk h
  have : bl = nbK k id o := h2
  have e1 : bsK k (id, Hd.mv e r o) = (ownB (k.ν id)).toList ++ bl := by rw [this]; rfl
  rw [e1]
  exact h1
theorem iQ {F : Fx} {k : K} (hk : aI F k) {S : St} (hS : k.h = lkH S.H) {fz : Bool} : ∀ {ps : List PS} {avs : List AV} {ds : List Dv} {bxs : List (Nat × Hd)} {obs : List (Nat × Ob)} {R : List Nat},
 bF (ve fz ps avs) S (ds, bxs, obs) R → ∀ {args : List Value}, dw.relAs F k avs args →
  ∃ l, True ∧ mY k obs ∧ (fz = true → ∀ id ∈ l, id ∈ obs.map (·.1)) ∧ jd k.w (k.okT F l) ps args ds (bxs.map (hvK k)) (bxs.flatMap (bsK k)) ∧ ((∀ p ∈ bxs, BB k p) ∧ Jd ps bxs)
 | [], [], ds, bxs, obs, R, h, args, ha => by
  obtain ⟨h1, _⟩ := af h
  simp only [Prod.mk.injEq] at h1
  obtain ⟨rfl, rfl, rfl⟩ := h1
  simp only [dw.relAs] at ha
  subst ha
  exact ⟨[], trivial, fun _ h => by simp at h, fun _ _ h => by simp at h, ⟨rfl, rfl, rfl, rfl⟩, fun _ h => by simp at h, rfl⟩
 | [], _ :: _, ds, bxs, obs, R, h, args, ha => (ag h).elim
 | .d t agg :: ps, [], ds, bxs, obs, R, h, args, ha => (ag h).elim
 | .bx t :: ps, [], ds, bxs, obs, R, h, args, ha => (ag h).elim
 | .ow e r o :: ps, [], ds, bxs, obs, R, h, args, ha => (ag h).elim
 | .mv e r o :: ps, [], ds, bxs, obs, R, h, args, ha => (ag h).elim
 | .cl _ _ :: _, [], ds, bxs, obs, R, h, args, ha => (ag h).elim
 | .rx _ :: _, [], ds, bxs, obs, R, h, args, ha => (ag h).elim
 | .cr _ _ :: _, [], ds, bxs, obs, R, h, args, ha => (ag h).elim
 | .cr _ _ :: _, _ :: _, ds, bxs, obs, R, h, args, ha => (ag h).elim
 | .cl _ _ :: _, _ :: _, ds, bxs, obs, R, h, args, ha => (ag h).elim
 | .d t agg :: ps, .tup _ :: avs, ds, bxs, obs, R, h, args, ha => (ag h).elim
 | .d t agg :: ps, .w v :: avs, ds, bxs, obs, R, h, args, ha => by
  obtain ⟨x, xs, rfl, hx, hxs⟩ := ha
  have main : ∀ {cs : List C} {vals : List Value} {R : List Nat}, bK F k cs vals → shape agg vals x →
   bF (M.bind (pack fz t cs) fun q => match q.2.1 with
   | [] => M.bind (ve fz ps avs) fun z => M.pure (⟨t, q.1⟩ :: z.1, z.2.1, z.2.2 ++ q.2.2)
   | _ => fail) S (ds, bxs, obs) R → ∃ l, True ∧ mY k obs ∧ (fz = true → ∀ id ∈ l, id ∈ obs.map (·.1)) ∧ jd k.w (k.okT F l) (.d t agg :: ps) (x :: xs) ds (bxs.map (hvK k)) (bxs.flatMap (bsK k)) ∧ ((∀ p ∈ bxs, BB k p) ∧ Jd (.d t agg :: ps) bxs) := by
   intro cs vals R hr hsh h
   obtain ⟨q, _, _, h1, h, _⟩ := ae (eF _ _ _) (fun _ => Good.all _) h
   obtain ⟨l1, u, v1, hsplit, hr1, ht1, hd1, hf1, hz1⟩ := gq hk hS (x := q.1) (rest := q.2.1) (obs := q.2.2) h1 hr
   split at h
   ·rename_i hq
    rw [hq] at hr1
    simp only [bK] at hr1
    subst hr1
    rw [List.append_nil] at hsplit
    subst hsplit
    obtain ⟨z, _, _, h2, h, _⟩ := ae (ji _ _ _) (fun _ => Good.all _) h
    obtain ⟨h3, _⟩ := af h
    simp only [Prod.mk.injEq] at h3
    obtain ⟨rfl, rfl, rfl⟩ := h3
    obtain ⟨l2, ht2, hf2, hz2, ha2, hb2⟩ := iQ hk hS (ds := z.1) (bxs := z.2.1) (obs := z.2.2) h2 hxs
    have m1 : ∀ i ∈ l1, i ∈ l1 ++ l2 := fun i hi => List.mem_append.2 (.inl hi)
    have m2 : ∀ i ∈ l2, i ∈ l1 ++ l2 := fun i hi => List.mem_append.2 (.inr hi)
    refine ⟨l1 ++ l2, trivial, fun p hp => ?_, fun hf id hi => ?_, ⟨x, xs, q.1, z.1, vals, rfl, rfl, hd1.mono (fun b hb => dN m1 hb) (fun _ _ _ => rfl), hsh, argsRd_mono (fun b hb => dN m2 hb) ha2⟩, hb2⟩
    ·rcases List.mem_append.1 hp with hp | hp
     ·exact hf2 p hp
     ·exact hf1 p hp
    ·rw [List.map_append]
     rcases List.mem_append.1 hi with hi | hi
     ·exact List.mem_append.2 (.inr (hz1 hf id hi))
     ·exact List.mem_append.2 (.inl (hz2 hf id hi))
   ·exact (ag h).elim
  cases agg with
  | true =>
   cases v with
   | agg cs =>
    obtain ⟨vs, h1, h2⟩ := kV hx
    exact main h2 h1 h
   | one c => exact (ag h).elim
  | false =>
   cases v with
   | one c => exact main (cs := [c]) (vals := [x]) ⟨x, [], rfl, hx, rfl⟩ (by simp [shape]) h
   | agg cs => exact (ag h).elim
 | .bx t :: ps, v :: avs, ds, bxs, obs, R, h, args, ha => by
  obtain ⟨x, xs, rfl, hx, hxs⟩ := ha
  cases v with
  | tup vs => exact (ag h).elim
  | w v =>
   cases v with
   | agg cs => exact (ag h).elim
   | one c =>
    cases c with
    | pb id off =>
     cases off with
     | succ n => exact (ag h).elim
     | zero =>
      obtain ⟨o, _, _, ho, h, _⟩ := ae (Good.rdO id) (fun _ => Good.all _) h
      obtain ⟨rfl, _⟩ := bZ ho
      rw [← hS] at h
      cases hid : k.h id with
      | none => rw [hid] at h; exact (ag h).elim
      | some o =>
       rw [hid] at h
       cases o with
       | box cs =>
        obtain ⟨cells, T, hheap, hr⟩ := hk.obj id _ hid
        obtain ⟨q, _, _, h1, h, _⟩ := ae (eF _ _ _) (fun _ => Good.all _) h
        obtain ⟨l1, u, v1, hsplit, hr1, ht1, hd1, hf1, hz1⟩ := gq hk hS (x := q.1) (rest := q.2.1) (obs := q.2.2) h1 hr
        split at h
        ·rename_i hq
         rw [hq] at hr1
         simp only [bK] at hr1
         subst hr1
         rw [List.append_nil] at hsplit
         subst hsplit
         obtain ⟨z, _, _, h2, h, _⟩ := ae (ji _ _ _) (fun _ => Good.all _) h
         obtain ⟨h3, _⟩ := af h
         simp only [Prod.mk.injEq] at h3
         obtain ⟨rfl, rfl, rfl⟩ := h3
         obtain ⟨l2, ht2, hf2, hz2, ha2, hb2⟩ := iQ hk hS (ds := z.1) (bxs := z.2.1) (obs := z.2.2) h2 hxs
         have m1 : ∀ i ∈ l1, i ∈ l1 ++ l2 := fun i hi => List.mem_append.2 (.inl hi)
         have m2 : ∀ i ∈ l2, i ∈ l1 ++ l2 := fun i hi => List.mem_append.2 (.inr hi)
         obtain ⟨_, hxv⟩ := hx
         subst hxv
         refine ⟨l1 ++ l2, trivial, fun p hp => ?_, fun hf i hi => ?_, ⟨k.μ id, xs, q.1, z.1, cells, T, _, _, rfl, rfl, rfl, rfl, hheap, hd1.mono (fun b hb => dN m1 hb) (fun _ _ _ => rfl), argsRd_mono (fun b hb => dN m2 hb) ha2⟩, fun p hp => ?_, ⟨_, _, rfl, hb2.2⟩⟩
         ·rcases List.mem_append.1 hp with hp | hp
          ·exact hf2 p hp
          ·exact hf1 p hp
         ·rw [List.map_append]
          rcases List.mem_append.1 hi with hi | hi
          ·exact List.mem_append.2 (.inr (hz1 hf i hi))
          ·exact List.mem_append.2 (.inl (hz2 hf i hi))
         ·rcases List.mem_cons.1 hp with rfl | hp
          ·exact ⟨cs, hid⟩
          ·exact hb2.1 p hp
        ·exact (ag h).elim
       | arr e r xs => exact (ag h).elim
       | imm r xs => exact (ag h).elim
       | gone => exact (ag h).elim
    | _ => exact (ag h).elim
 | .rx t :: ps, v :: avs, ds, bxs, obs, R, h, args, ha => by
  obtain ⟨x, xs, rfl, hx, hxs⟩ := ha
  cases v with
  | tup vs => exact (ag h).elim
  | w v =>
   cases v with
   | agg cs => exact (ag h).elim
   | one c =>
    cases c with
    | pb id off =>
     cases off with
     | succ n => exact (ag h).elim
     | zero =>
      obtain ⟨_, _, _, hg, h, _⟩ := ae (Good.guard _) (fun _ => Good.all _) h
      have hfz : fz = false := by have := (aB hg).1; simpa using this
      obtain ⟨o, _, _, ho, h, _⟩ := ae (Good.rdO id) (fun _ => Good.all _) h
      obtain ⟨rfl, _⟩ := bZ ho
      rw [← hS] at h
      cases hid : k.h id with
      | none => rw [hid] at h; exact (ag h).elim
      | some o =>
       rw [hid] at h
       cases o with
       | box cs =>
        obtain ⟨cells, T, hheap, hr⟩ := hk.obj id _ hid
        obtain ⟨q, _, _, h1, h, _⟩ := ae (eF _ _ _) (fun _ => Good.all _) h
        obtain ⟨l1, u, v1, hsplit, hr1, ht1, hd1, hf1, hz1⟩ := gq hk hS (x := q.1) (rest := q.2.1) (obs := q.2.2) h1 hr
        split at h
        ·rename_i hq
         rw [hq] at hr1
         simp only [bK] at hr1
         subst hr1
         rw [List.append_nil] at hsplit
         subst hsplit
         obtain ⟨z, _, _, h2, h, _⟩ := ae (ji _ _ _) (fun _ => Good.all _) h
         obtain ⟨h3, _⟩ := af h
         simp only [Prod.mk.injEq] at h3
         obtain ⟨rfl, rfl, rfl⟩ := h3
         obtain ⟨l2, ht2, hf2, hz2, ha2, hb2⟩ := iQ hk hS (ds := z.1) (bxs := z.2.1) (obs := z.2.2) h2 hxs
         have m1 : ∀ i ∈ l1, i ∈ id :: (l1 ++ l2) := fun i hi => List.mem_cons_of_mem _ (List.mem_append.2 (.inl hi))
         have m2 : ∀ i ∈ l2, i ∈ id :: (l1 ++ l2) := fun i hi => List.mem_cons_of_mem _ (List.mem_append.2 (.inr hi))
         obtain ⟨_, hxv⟩ := hx
         subst hxv
         refine ⟨id :: (l1 ++ l2), trivial, fun p hp => ?_, fun hf i hi => (by rw [hfz] at hf; cases hf), ⟨k.μ id, xs, q.1, z.1, cells, T, rfl, rfl, .inr ⟨id, by simp, by unfold K.own; rw [hid]⟩, hheap, hd1.mono (fun b hb => dN m1 hb) (fun _ _ _ => rfl), argsRd_mono (fun b hb => dN m2 hb) ha2⟩, hb2⟩
         rcases List.mem_append.1 hp with hp | hp
         ·exact hf2 p hp
         ·exact hf1 p hp
        ·exact (ag h).elim
       | arr e r xs => exact (ag h).elim
       | imm r xs => exact (ag h).elim
       | gone => exact (ag h).elim
    | _ => exact (ag h).elim
 | .ow e r o :: ps, v :: avs, ds, bxs, obs, R, h, args, ha => by
  obtain ⟨x, xs, rfl, hx, hxs⟩ := ha
  cases v with
  | tup vs => exact (ag h).elim
  | w v =>
   cases v with
   | agg cs => exact (ag h).elim
   | one c =>
    cases c with
    | arr id =>
     obtain ⟨oo, _, _, ho, h, _⟩ := ae (Good.rdO id) (fun _ => Good.all _) h
     obtain ⟨rfl, _⟩ := bZ ho
     rw [← hS] at h
     split at h
     ·rename_i e' r' ys d hid
      obtain ⟨_, _, _, hg, h, _⟩ := ae (Good.guard _) (fun _ => Good.all _) h
      have hg := (aB hg).1
      simp only [Bool.and_eq_true] at hg
      obtain ⟨y, _, _, hy, h, _⟩ := ae (Good.aY _) (fun _ => Good.all _) h
      obtain ⟨z, _, _, h2, h, _⟩ := ae (ji _ _ _) (fun _ => Good.all _) h
      obtain ⟨h3, _⟩ := af h
      simp only [Prod.mk.injEq] at h3
      obtain ⟨rfl, rfl, rfl⟩ := h3
      obtain ⟨he, rfl⟩ := dD (aH hy).1
      injection he with he
      subst he
      obtain rfl := Nat.eq_of_beq_eq_true hg.1
      obtain rfl := Eb hg.2
      obtain ⟨l2, ht2, hf2, hz2, ha2, hb2⟩ := iQ hk hS (ds := z.1) (bxs := z.2.1) (obs := z.2.2) h2 hxs
      obtain ⟨us, bl, g1, g2, g3, g4, g5, g6⟩ := Qj hk hid
      obtain ⟨_, hx⟩ := hx
      rw [hid] at hx
      have hx : x = k.ν id := hx
      have hbl : bl = nbK k id o := g6
      refine ⟨l2, ht2, hf2, hz2, ⟨x, xs, ys, z.1, us, bl, _, _, rfl, rfl, by rw [hx]; rfl, ?_, by rw [hx]; exact ownsRow_base g1 (Nat.zero_le _), (g2.base (Nat.zero_le _)).mono (fun b hb => .inl hb), g3, ha2⟩, fun p hp => ?_, ⟨_, _, rfl, hb2.2⟩⟩
      ·rw [hx, hbl]; rfl
      ·rcases List.mem_cons.1 hp with rfl | hp
       ·exact ⟨ys, hid⟩
       ·exact hb2.1 p hp
     ·exact (ag h).elim
    | _ => exact (ag h).elim
 | .mv e r o :: ps, v :: avs, ds, bxs, obs, R, h, args, ha => by
  obtain ⟨x, xs, rfl, hx, hxs⟩ := ha
  cases v with
  | tup vs => exact (ag h).elim
  | w v =>
   cases v with
   | agg cs => exact (ag h).elim
   | one c =>
    cases c with
    | arr id =>
     obtain ⟨oo, _, _, ho, h, _⟩ := ae (Good.rdO id) (fun _ => Good.all _) h
     obtain ⟨rfl, _⟩ := bZ ho
     rw [← hS] at h
     split at h
     ·rename_i e' r' ys d hid
      obtain ⟨_, _, _, hg, h, _⟩ := ae (Good.guard _) (fun _ => Good.all _) h
      have hg := (aB hg).1
      simp only [Bool.and_eq_true, Bool.not_eq_true'] at hg
      obtain ⟨y, _, _, hy, h, _⟩ := ae (Good.aY _) (fun _ => Good.all _) h
      obtain ⟨z, _, _, h2, h, _⟩ := ae (ji _ _ _) (fun _ => Good.all _) h
      obtain ⟨h3, _⟩ := af h
      simp only [Prod.mk.injEq] at h3
      obtain ⟨rfl, rfl, rfl⟩ := h3
      obtain ⟨he, rfl⟩ := dD (aH hy).1
      injection he with he
      subst he
      obtain rfl := Nat.eq_of_beq_eq_true hg.1
      obtain rfl := Eb hg.2.1
      obtain ⟨l2, ht2, hf2, hz2, ha2, hb2⟩ := iQ hk hS (ds := z.1) (bxs := z.2.1) (obs := z.2.2) h2 hxs
      obtain ⟨us, bl, g1, g2, g3, g4, g5, g6⟩ := Qj hk hid
      obtain ⟨_, hx⟩ := hx
      rw [hid] at hx
      have hx : x = k.ν id := hx
      have hbl : bl = nbK k id o := g6
      refine ⟨l2, ht2, hf2, hz2, ⟨x, xs, ys, z.1, us, bl, _, _, rfl, rfl, rfl, ?_, by rw [hx]; exact ownsRow_base g1 (Nat.zero_le _), (g2.base (Nat.zero_le _)).mono (fun b hb => .inl hb), g3, ha2⟩, fun p hp => ?_, ⟨_, _, rfl, hb2.2⟩⟩
      ·rw [hx, hbl]; rfl
      ·rcases List.mem_cons.1 hp with rfl | hp
       ·exact ⟨ys, hid⟩
       ·exact hb2.1 p hp
     ·exact (ag h).elim
    | _ => exact (ag h).elim
 | .sp _ :: _, [], ds, bxs, obs, R, h, args, ha => (ag h).elim
 | .sp _ :: _, _ :: _, ds, bxs, obs, R, h, args, ha => (ag h).elim
 where
 argsRd_mono {w : World} {ok ok' : Nat → Prop} (ho : ∀ b, ok b → ok' b) : ∀ {ps : List PS} {vs : List Value} {ds : List Dv} {hv : List HV} {bs : List Nat}, jd w ok ps vs ds hv bs → jd w ok' ps vs ds hv bs
  | [], _, _, _, _, h => h
  | .d t agg :: ps, _, _, _, _, h => by
   obtain ⟨v, vs', x, ds', cs, rfl, rfl, h1, h2, h3⟩ := h
   exact ⟨v, vs', x, ds', cs, rfl, rfl, h1.mono ho (fun _ _ _ => rfl), h2, argsRd_mono ho h3⟩
  | .bx t :: ps, _, _, _, _, h => by
   obtain ⟨b, vs', x, ds', cs, T, hv', bs', rfl, rfl, rfl, rfl, h1, h2, h3⟩ := h
   exact ⟨b, vs', x, ds', cs, T, hv', bs', rfl, rfl, rfl, rfl, h1, h2.mono ho (fun _ _ _ => rfl), argsRd_mono ho h3⟩
  | .ow e r o :: ps, _, _, _, _, h => by
   obtain ⟨v, vs', x, ds', us, bl, hv', bs', rfl, rfl, rfl, rfl, h1, h2, h3, h4⟩ := h
   exact ⟨v, vs', x, ds', us, bl, hv', bs', rfl, rfl, rfl, rfl, h1, h2.mono ho, h3, argsRd_mono ho h4⟩
  | .mv e r o :: ps, _, _, _, _, h => by
   obtain ⟨v, vs', x, ds', us, bl, hv', bs', rfl, rfl, rfl, rfl, h1, h2, h3, h4⟩ := h
   exact ⟨v, vs', x, ds', us, bl, hv', bs', rfl, rfl, rfl, rfl, h1, h2.mono ho, h3, argsRd_mono ho h4⟩
  | .sp _ :: _, _, _, _, _, h => h.elim
  | .cl _ _ :: _, _, _, _, _, h => h.elim
  | .cr _ _ :: _, _, _, _, _, h => h.elim
  | .rx t :: ps, _, _, _, _, h => by
   obtain ⟨b, vs', x, ds', cs, T, rfl, rfl, h0, h1, h2, h3⟩ := h
   exact ⟨b, vs', x, ds', cs, T, rfl, rfl, ho _ h0, h1, h2.mono ho (fun _ _ _ => rfl), argsRd_mono ho h3⟩
theorem LD {F : Fx} {k : K} : ∀ {cs : List C} {vs : List Value}, bK F k cs vs → dw.relAs F k (cs.map fun c => AV.w (.one c)) vs
 | [], _, h => h
 | c :: cs, _, h => by
  obtain ⟨v, vs', rfl, h1, h2⟩ := h
  exact ⟨v, vs', rfl, h1, LD h2⟩
theorem fB {F : Fx} {k : K} : ∀ {ps : List PS} {avs favs : List AV} {args : List Value}, fF ps avs = some favs → dw.relAs F k avs args → ∃ fargs, rH ps args fargs ∧ dw.relAs F k favs fargs
 | [], [], favs, args, h, ha => by
  simp only [fF, Option.some.injEq] at h
  subst h
  simp only [dw.relAs] at ha
  subst ha
  exact ⟨[], ⟨rfl, rfl⟩, rfl⟩
 | [], _ :: _, favs, args, h, ha => by simp [fF] at h
 | .cl g ts :: ps, [], favs, args, h, ha => by simp [fF] at h
 | .cr g ts :: ps, [], favs, args, h, ha => by simp [fF] at h
 | .rx t :: ps, [], favs, args, h, ha => by simp [fF] at h
 | .d t a :: ps, [], favs, args, h, ha => by simp [fF] at h
 | .bx t :: ps, [], favs, args, h, ha => by simp [fF] at h
 | .ow e r o :: ps, [], favs, args, h, ha => by simp [fF] at h
 | .ow e r o :: ps, v :: avs, favs, args, h, ha => by
  obtain ⟨x, xs, rfl, hx, hxs⟩ := ha
  simp only [fF] at h
  split at h
  ·rename_i z hz
   simp only [Option.some.injEq] at h
   subst h
   obtain ⟨fs, h1, h2⟩ := fB hz hxs
   exact ⟨x :: fs, ⟨x, xs, fs, rfl, rfl, h1⟩, x, fs, rfl, hx, h2⟩
  ·cases h
 | .mv e r o :: ps, v :: avs, favs, args, h, ha => by
  obtain ⟨x, xs, rfl, hx, hxs⟩ := ha
  simp only [fF] at h
  split at h
  ·rename_i z hz
   simp only [Option.some.injEq] at h
   subst h
   obtain ⟨fs, h1, h2⟩ := fB hz hxs
   exact ⟨x :: fs, ⟨x, xs, fs, rfl, rfl, h1⟩, x, fs, rfl, hx, h2⟩
  ·cases h
 | .mv e r o :: ps, [], favs, args, h, ha => by simp [fF] at h
 | .sp l :: ps, [], favs, args, h, ha => by simp [fF] at h
 | .sp l :: ps, v :: avs, favs, args, h, ha => by
  obtain ⟨x, xs, rfl, hx, hxs⟩ := ha
  simp only [fF] at h
  split at h
  ·rename_i cs
   cases hb : Nat.beq cs.length l.length with
   | false => rw [hb] at h; cases h
   | true =>
    rw [hb] at h
    simp only [cond_true] at h
    split at h
    ·rename_i z hz
     simp only [Option.some.injEq] at h
     subst h
     obtain ⟨vs, hv, hr⟩ := hx
     obtain ⟨fs, h1, h2⟩ := fB hz hxs
     exact ⟨vs ++ fs, ⟨vs, xs, fs, by rw [hv], rfl, by rw [hr.length]; exact Nat.eq_of_beq_eq_true hb, h1⟩, jf (LD hr) h2⟩
    ·cases h
  ·cases h
 | .d t a :: ps, v :: avs, favs, args, h, ha => by
  obtain ⟨x, xs, rfl, hx, hxs⟩ := ha
  simp only [fF] at h
  split at h
  ·rename_i z hz
   simp only [Option.some.injEq] at h
   subst h
   obtain ⟨fs, h1, h2⟩ := fB hz hxs
   exact ⟨x :: fs, ⟨x, xs, fs, rfl, rfl, h1⟩, x, fs, rfl, hx, h2⟩
  ·cases h
 | .bx t :: ps, v :: avs, favs, args, h, ha => by
  obtain ⟨x, xs, rfl, hx, hxs⟩ := ha
  simp only [fF] at h
  split at h
  ·rename_i z hz
   simp only [Option.some.injEq] at h
   subst h
   obtain ⟨fs, h1, h2⟩ := fB hz hxs
   exact ⟨x :: fs, ⟨x, xs, fs, rfl, rfl, h1⟩, x, fs, rfl, hx, h2⟩
  ·cases h
 | .cl g ts :: ps, v :: avs, favs, args, h, ha => by
  obtain ⟨x, xs, rfl, hx, hxs⟩ := ha
  simp only [fF] at h
  split at h
  ·rename_i g' caps
   cases hb : (Nat.beq g' g && Nat.beq caps.length ts.length) with
   | false => rw [hb] at h; cases h
   | true =>
    rw [hb] at h
    simp only [Bool.and_eq_true] at hb
    obtain rfl := Nat.eq_of_beq_eq_true hb.1
    simp only [cond_true] at h
    split at h
    ·rename_i z hz
     simp only [Option.some.injEq] at h
     subst h
     obtain ⟨hc, hv⟩ := hx
     obtain ⟨fs, h1, h2⟩ := fB hz hxs
     exact ⟨_, ⟨_, xs, fs, by rw [hv], rfl, by simpa using Nat.eq_of_beq_eq_true hb.2, h1⟩, jf (yU hc) h2⟩
    ·cases h
  ·cases h
 | .cr g ts :: ps, v :: avs, favs, args, h, ha => by
  obtain ⟨x, xs, rfl, hx, hxs⟩ := ha
  simp only [fF] at h
  split at h
  ·rename_i g' caps
   cases hb : (Nat.beq g' g && Nat.beq caps.length ts.length) with
   | false => rw [hb] at h; cases h
   | true =>
    rw [hb] at h
    simp only [Bool.and_eq_true] at hb
    obtain rfl := Nat.eq_of_beq_eq_true hb.1
    simp only [cond_true] at h
    split at h
    ·rename_i z hz
     simp only [Option.some.injEq] at h
     subst h
     obtain ⟨hc, hv⟩ := hx
     obtain ⟨fs, h1, h2⟩ := fB hz hxs
     exact ⟨_, ⟨_, xs, fs, by rw [hv], rfl, by simpa using Nat.eq_of_beq_eq_true hb.2, h1⟩, jf (yU hc) h2⟩
    ·cases h
  ·cases h
 | .rx t :: ps, v :: avs, favs, args, h, ha => by
  obtain ⟨x, xs, rfl, hx, hxs⟩ := ha
  simp only [fF] at h
  split at h
  ·rename_i z hz
   simp only [Option.some.injEq] at h
   subst h
   obtain ⟨fs, h1, h2⟩ := fB hz hxs
   exact ⟨x :: fs, ⟨x, xs, fs, rfl, rfl, h1⟩, x, fs, rfl, hx, h2⟩
  ·cases h
end mem
end Go.MC
namespace Go.MC
open Go.RowKit
structure jA where
 n : Nat
 ob : Ob
 v : Value
 nb : List Nat
def amN (w : World) (ok : Nat → Prop) (base : Nat) (x : jA) : Prop := ∃ e r xs us o, x.ob = .arr e r xs (dpO o) ∧ cZ w base e r.sz x.v xs.length us ∧ fG w ok base r o xs us x.nb ∧ xs.length ≤ lim
def jA.bl (x : jA) : List Nat := (ownB x.v).toList ++ x.nb
def iy (news : List jA) : List Nat := news.flatMap jA.bl
def NI (k : K) (news : List jA) : Prop := ∀ x ∈ news, k.h x.n = some x.ob ∧ k.ν x.n = x.v
theorem rE (a b : List jA) : iy (a ++ b) = iy a ++ iy b := by simp [iy]
theorem wS {F : Fx} {w : World} {ok : Nat → Prop} {base : Nat} : ∀ {t : Ty} {x : t.den} {es : List (Nat × Option (List Nat))} {id : Nat} {vs : List Value} {es' : List (Nat × Option (List Nat))} {os : List Nat}, iY w ok base t x es vs es' os →
 (Ih t x es id).2.2.1 = es' ∧ ∃ news, (Ih t x es id).2.1 = news.map (fun x => (x.n, x.ob)) ∧ (∀ x ∈ news, amN w ok base x) ∧ os.Perm (iy news) ∧
  ∀ k', k'.w = w → (∀ c, ok c → k'.ok F c) → NI k' news → bK F k' (Ih t x es id).1 vs
 | .bool, x, es, id, vs, es', os, h => by
  obtain ⟨rfl, rfl, h1⟩ := h
  exact ⟨rfl, [], rfl, fun _ h => by simp at h, .refl _, fun k' hw ho _ => fD (t := .bool) (by rw [hw]; exact h1.mono ho (fun _ _ _ => rfl))⟩
 | .int kk, x, es, id, vs, es', os, h => by
  obtain ⟨rfl, rfl, h1⟩ := h
  exact ⟨rfl, [], rfl, fun _ h => by simp at h, .refl _, fun k' hw ho _ => fD (t := .int kk) (by rw [hw]; exact h1.mono ho (fun _ _ _ => rfl))⟩
 | .str, x, es, id, vs, es', os, h => by
  obtain ⟨rfl, rfl, h1⟩ := h
  exact ⟨rfl, [], rfl, fun _ h => by simp at h, .refl _, fun k' hw ho _ => fD (t := .str) (by rw [hw]; exact h1.mono ho (fun _ _ _ => rfl))⟩
 | .slice r, xs, es, id, vs, es', os, h => by
  obtain ⟨e, v, us, bl, rfl, rfl, h1, h2, h3, rfl⟩ := h
  refine ⟨rfl, [⟨id, .arr e.1 r xs (dpO e.2), v, bl⟩], rfl, fun x hx => ?_, by simp [iy, jA.bl], fun k' hw ho hn => ?_⟩
  ·simp at hx; subst hx; exact ⟨e.1, r, xs, us, e.2, rfl, h1, h2, h3⟩
  ·obtain ⟨h4, h5⟩ := hn _ List.mem_cons_self
   obtain ⟨a, c, hv⟩ := Nz h1
   refine ⟨v, [], rfl, ⟨⟨a, _, c, hv⟩, ?_⟩, rfl⟩
   rw [show k'.h id = _ from h4]
   exact h5.symm
 | .pair a b, x, es, id, vs, es', os, h => by
  obtain ⟨v1, v2, es1, o1, o2, rfl, h1, h2, rfl⟩ := h
  obtain ⟨e1, n1, p1, r1, q1, s1⟩ := wS (F := F) (id := id) h1
  subst e1
  obtain ⟨e2, n2, p2, r2, q2, s2⟩ := wS (F := F) (id := (Ih a x.1 es id).2.2.2) h2
  refine ⟨e2, n2 ++ n1, ?_, fun x hx => ?_, ?_, fun k' hw ho hn => ?_⟩
  ·simp only [Ih, p1, p2, List.map_append]
  ·rcases List.mem_append.1 hx with hx | hx
   ·exact r2 x hx
   ·exact r1 x hx
  ·rw [rE]
   exact (List.Perm.append q1 q2).trans List.perm_append_comm
  ·exact (s1 k' hw ho fun x hx => hn x (List.mem_append.2 (.inr hx))).append (s2 k' hw ho fun x hx => hn x (List.mem_append.2 (.inl hx)))
theorem uG {F : Fx} {k : K} {agg : Bool} {cs : List C} {vs : List Value} {v : Value} (hr : bK F k cs vs) (hs : shape agg vs v) : (agg = true → su F k (.agg cs) v) ∧ (agg = false → ∀ c, cs = [c] → su F k (.one c) v) := by
 constructor
 ·rintro rfl
  exact ⟨vs, by simpa [shape] using hs, hr⟩
 ·rintro rfl c rfl
  obtain ⟨u, us, rfl, h1, h2⟩ := hr
  simp only [bK] at h2
  subst h2
  have : u = v := by simpa [shape] using hs
  subst this
  exact h1
theorem iU {F : Fx} {w : World} {ok : Nat → Prop} {base : Nat} : ∀ {rs : List RS} {ds : List Dv} {id : Nat} {vs1 : List V1} {obs : List (Nat × Ob)} {rest : List Dv} {id' : Nat}, iw rs ds id = some (vs1, obs, rest, id') →
 ∀ {vals : List Value} {rest' : List Dv} {os : List Nat}, kz w ok base rs vals ds rest' os → rest = rest' ∧ ∃ news, obs = news.map (fun x => (x.n, x.ob)) ∧ (∀ x ∈ news, amN w ok base x) ∧ os.Perm (iy news) ∧
   ∀ k', k'.w = w → (∀ c, ok c → k'.ok F c) → NI k' news → fQ F k' vs1 vals
 | [], ds, id, vs1, obs, rest, id', h, vals, rest', os, hr => by
  simp only [iw, Option.some.injEq, Prod.mk.injEq] at h
  obtain ⟨rfl, rfl, rfl, rfl⟩ := h
  obtain ⟨rfl, rfl, rfl⟩ := hr
  exact ⟨rfl, [], rfl, fun _ h => by simp at h, .refl _, fun _ _ _ _ => rfl⟩
 | .any :: rs, ds, id, vs1, obs, rest, id', h, vals, rest', os, hr => by
  simp only [iw] at h
  obtain ⟨v, vs', rfl, hr⟩ := hr
  split at h
  ·rename_i z hz
   obtain ⟨z1, z2, z3, z4⟩ := z
   simp only [Option.some.injEq, Prod.mk.injEq] at h
   obtain ⟨rfl, rfl, rfl, rfl⟩ := h
   obtain ⟨h1, news, h2, h3, h4, h5⟩ := iU (F := F) hz hr
   exact ⟨h1, news, h2, h3, h4, fun k' a b c => ⟨v, vs', rfl, trivial, h5 k' a b c⟩⟩
  ·cases h
 | .d t agg :: rs, ds, id, vs1, obs, rest, id', h, vals, rest', os, hr => by
  obtain ⟨v, vs', x, d, cs, rfl, rfl, h0, hsh, hr⟩ := hr
  simp only [iw] at h
  split at h
  ·rename_i y z hy hz
   rw [dQ] at hy
   cases hy
   obtain ⟨z1, z2, z3, z4⟩ := z
   simp only [Option.some.injEq, Prod.mk.injEq] at h
   obtain ⟨rfl, rfl, rfl, rfl⟩ := h
   obtain ⟨h1, news, h2, h3, h4, h5⟩ := iU (F := F) hz hr
   refine ⟨h1, news, h2, h3, h4, fun k' a b c => ⟨v, vs', rfl, ?_, h5 k' a b c⟩⟩
   have hrd : Rd k'.w (k'.ok F) t x cs := by rw [a]; exact h0.mono b (fun _ _ _ => rfl)
   cases agg with
   | true => exact (uG (fD hrd) hsh).1 rfl
   | false =>
    have : cs = [v] := by simpa [shape] using hsh
    subst this
    exact hrd
  ·cases h
 | .own t agg es :: rs, ds, id, vs1, obs, rest, id', h, vals, rest', os, hr => by
  obtain ⟨v, vs', x, d, cs, o1, o2, rfl, rfl, h0, hsh, hr, rfl⟩ := hr
  simp only [iw] at h
  rw [dQ] at h
  dsimp only at h
  obtain ⟨_, n1, p1, r1, q1, s1⟩ := wS (F := F) (id := id) h0
  cases hz : iw rs d (Ih t x es id).2.2.2 with
  | none => rw [hz] at h; cases agg <;> cases h
  | some z =>
   obtain ⟨z1, z2, z3, z4⟩ := z
   obtain ⟨h1, n2, h2, h3, h4, h5⟩ := iU (F := F) hz hr
   rw [hz] at h
   have fin : ∀ (c1 : V1), (∀ k', bK F k' (Ih t x es id).1 cs → su F k' c1 v) → vs1 = c1 :: z1 → obs = z2 ++ (Ih t x es id).2.1 → rest = z3 → rest = rest' ∧ ∃ news, obs = news.map (fun x => (x.n, x.ob)) ∧ (∀ x ∈ news, amN w ok base x) ∧ (o1 ++ o2).Perm (iy news) ∧
   ∀ k', k'.w = w → (∀ c, ok c → k'.ok F c) → NI k' news → fQ F k' vs1 (v :: vs') := by
     rintro c1 hc1 rfl rfl rfl
     refine ⟨h1, n2 ++ n1, by rw [p1, h2, List.map_append], fun x hx => ?_, ?_, fun k' a b c => ⟨v, vs', rfl, hc1 k' (s1 k' a b fun x hx => c x (List.mem_append.2 (.inr hx))), h5 k' a b fun x hx => c x (List.mem_append.2 (.inl hx))⟩⟩
     ·rcases List.mem_append.1 hx with hx | hx
      ·exact h3 x hx
      ·exact r1 x hx
     ·rw [rE]
      exact (List.Perm.append q1 h4).trans List.perm_append_comm
   cases agg with
   | true =>
    simp only [Option.some.injEq, Prod.mk.injEq] at h
    obtain ⟨rfl, rfl, rfl, rfl⟩ := h
    exact fin _ (fun k' hr => (uG hr hsh).1 rfl) rfl rfl rfl
   | false =>
    split at h
    ·rename_i h6 h7; cases h7
    ·rename_i z' cs' c h6 h7 h8
     cases h6
     simp only [Option.some.injEq, Prod.mk.injEq] at h
     obtain ⟨rfl, rfl, rfl, rfl⟩ := h
     exact fin _ (fun k' hr => (uG hr hsh).2 rfl _ h8) rfl rfl rfl
    ·cases h
def ahC (w : World) (ok : Nat → Prop) (k : K) (nbn : Nat → List Nat) (bxs : List (Nat × Hd)) (p : Nat × Ob) : Prop :=
 (∃ t x cs T, p.2 = .box (unpack t x) ∧ (p.1, Hd.bx t) ∈ bxs ∧ w.heap[k.μ p.1]? = some (.cells cs.toArray T (0, 0)) ∧ Rd w ok t x cs) ∨
 (p.2 = .gone ∧ ∃ e r o, (p.1, Hd.mv e r o) ∈ bxs) ∨
 (∃ e r xs us o, p.2 = .arr e r xs (dpO o) ∧ (p.1, Hd.ow e r o) ∈ bxs ∧ cZ w 0 e r.sz (k.ν p.1) xs.length us ∧ fG w ok 0 r o xs us (nbn p.1) ∧ xs.length ≤ lim)
def kE (k : K) (nbn : Nat → List Nat) (p : Nat × Ob) : List Nat := match p.2 with
 | .box _ => [k.μ p.1]
 | .gone => []
 | _ => (ownB (k.ν p.1)).toList ++ nbn p.1
theorem gp {w : World} {ok : Nat → Prop} {k : K} : ∀ {ps : List PS} {bxs : List (Nat × Hd)} {rest : List Dv} {b : List (Nat × Ob)} {bs' : List Nat}, pO bxs rest = some b → Jd ps bxs → (bxs.map (·.1)).Nodup → vk w ok ps (bxs.map (hvK k)) rest bs' →
 b.map (·.1) = bxs.map (·.1) ∧ ∃ nbn : Nat → List Nat, (∀ p ∈ b, ahC w ok k nbn bxs p) ∧ bs' = b.flatMap (kE k nbn)
 | [], bxs, rest, b, bs', h, hx, hn, hr => by
  obtain ⟨h1, rfl, rfl⟩ := hr
  have : bxs = [] := by cases bxs <;> simp_all
  subst this
  simp only [pO, Option.some.injEq] at h
  subst h
  exact ⟨rfl, fun _ => [], fun _ h => by simp at h, rfl⟩
 | .d _ _ :: ps, bxs, rest, b, bs', h, hx, hn, hr => gp (ps := ps) h hx hn hr
 | .cl _ _ :: _, bxs, rest, b, bs', h, hx, hn, hr => hr.elim
 | .cr _ _ :: _, bxs, rest, b, bs', h, hx, hn, hr => hr.elim
 | .rx _ :: ps, bxs, rest, b, bs', h, hx, hn, hr => gp (ps := ps) h hx hn hr
 | .sp _ :: _, bxs, rest, b, bs', h, hx, hn, hr => hr.elim
 | .mv e r o :: ps, bxs, rest, b, bs', h, hx, hn, hr => by
  obtain ⟨hv', h1, h4⟩ := hr
  obtain ⟨i, bxs, rfl, hx⟩ := hx
  simp only [List.map_cons, List.cons.injEq] at h1
  obtain ⟨h1, rfl⟩ := h1
  simp only [List.map_cons, List.nodup_cons] at hn
  simp only [pO] at h
  split at h
  ·rename_i z hz
   simp only [Option.some.injEq] at h
   subst h
   obtain ⟨h5, nbn, h6, h7⟩ := gp (ps := ps) hz hx hn.2 h4
   refine ⟨by simp [h5], nbn, fun p hp => ?_, by rw [h7]; rfl⟩
   rcases List.mem_cons.1 hp with rfl | hp
   ·exact .inr (.inl ⟨rfl, e, r, o, by simp⟩)
   ·rcases h6 p hp with ⟨t2, x2, cs2, T2, a1, a2, a3, a4⟩ | ⟨a1, e, r, o, a2⟩ | ⟨e, r, xs, us, o, a1, a2, a3⟩
    ·exact .inl ⟨t2, x2, cs2, T2, a1, by simp [a2], a3, a4⟩
    ·exact .inr (.inl ⟨a1, e, r, o, by simp [a2]⟩)
    ·exact .inr (.inr ⟨e, r, xs, us, o, a1, by simp [a2], a3⟩)
  ·cases h
 | .bx t :: ps, bxs, rest, b, bs', h, hx, hn, hr => by
  obtain ⟨c, hv', x, ds', cs, T, bs2, h1, rfl, rfl, h2, h3, h4⟩ := hr
  obtain ⟨i, bxs, rfl, hx⟩ := hx
  ·simp only [List.map_cons, List.cons.injEq] at h1
   obtain ⟨h1, rfl⟩ := h1
   ·have h1 : HV.bx (k.μ i) = HV.bx c := h1
    cases h1
    simp only [List.map_cons, List.nodup_cons] at hn
    simp only [pO] at h
    split at h
    ·rename_i y z hy hz
     rw [dQ] at hy
     cases hy
     simp only [Option.some.injEq] at h
     subst h
     obtain ⟨h5, nbn, h6, h7⟩ := gp (ps := ps) hz hx hn.2 h4
     refine ⟨by simp [h5], nbn, fun p hp => ?_, by rw [h7]; rfl⟩
     rcases List.mem_cons.1 hp with rfl | hp
     ·exact .inl ⟨t, x, cs, T, rfl, by simp, h2, h3⟩
     ·rcases h6 p hp with ⟨t2, x2, cs2, T2, a1, a2, a3, a4⟩ | ⟨a1, e, r, o, a2⟩ | ⟨e, r, xs, us, o, a1, a2, a3⟩
      ·exact .inl ⟨t2, x2, cs2, T2, a1, by simp [a2], a3, a4⟩
      ·exact .inr (.inl ⟨a1, e, r, o, by simp [a2]⟩)
      ·exact .inr (.inr ⟨e, r, xs, us, o, a1, by simp [a2], a3⟩)
    ·cases h
 | .ow e r o :: ps, bxs, rest, b, bs', h, hx, hn, hr => by
  obtain ⟨v, hv', xs, ds', us, bl, bs2, h1, rfl, rfl, h2, h3, hl, h4⟩ := hr
  obtain ⟨i, bxs, rfl, hx⟩ := hx
  ·simp only [List.map_cons, List.cons.injEq] at h1
   obtain ⟨h1, rfl⟩ := h1
   ·have h1 : HV.ow (k.ν i) = HV.ow v := h1
    cases h1
    simp only [List.map_cons, List.nodup_cons] at hn
    simp only [pO] at h
    split at h
    ·rename_i y z hy hz
     rw [dQ] at hy
     cases hy
     simp only [Option.some.injEq] at h
     subst h
     obtain ⟨h5, nbn, h6, h7⟩ := gp (ps := ps) hz hx hn.2 h4
     have hne : ∀ p ∈ z, p.1 ≠ i := fun p hp hpi => hn.1 (by rw [← h5]; exact List.mem_map.2 ⟨p, hp, hpi⟩)
     let nbn' : Nat → List Nat := fun j => if j = i then bl else nbn j
     have hsame : ∀ p ∈ z, nbn' p.1 = nbn p.1 := fun p hp => if_neg (hne p hp)
     refine ⟨by simp [h5], nbn', fun p hp => ?_, ?_⟩
     ·rcases List.mem_cons.1 hp with rfl | hp
      ·exact .inr (.inr ⟨e, r, xs, us, o, rfl, by simp, h2, by show fG w ok 0 r o xs us (if i = i then bl else nbn i); rw [if_pos rfl]; exact h3, hl⟩)
      ·rcases h6 p hp with ⟨t2, x2, cs2, T2, a1, a2, a3, a4⟩ | ⟨a1, e2, r2, o2, a2⟩ | ⟨e2, r2, xs2, us2, o2, a1, a2, a3, a4, a5⟩
       ·exact .inl ⟨t2, x2, cs2, T2, a1, by simp [a2], a3, a4⟩
       ·exact .inr (.inl ⟨a1, e2, r2, o2, by simp [a2]⟩)
       ·exact .inr (.inr ⟨e2, r2, xs2, us2, o2, a1, by simp [a2], a3, by rw [hsame p hp]; exact a4, a5⟩)
     ·have e1 : z.flatMap (kE k nbn') = z.flatMap (kE k nbn) := by
       have : ∀ l : List (Nat × Ob), (∀ p ∈ l, nbn' p.1 = nbn p.1) → l.flatMap (kE k nbn') = l.flatMap (kE k nbn) := by
        intro l
        induction l with
        | nil => exact fun _ => rfl
        | cons q l ih =>
         intro hl
         rw [List.flatMap_cons, List.flatMap_cons, ih fun p hp => hl p (by simp [hp])]
         congr 1
         unfold kE
         rw [hl q (by simp)]
       exact this z hsame
      rw [List.flatMap_cons, e1, ← h7]
      show _ = ((ownB (k.ν i)).toList ++ (if i = i then bl else nbn i)) ++ bs2
      rw [if_pos rfl]
    ·cases h
end Go.MC
namespace Go.MC
open Go.RowKit
theorem QB {l : List (Nat × Ob)} {i : Nat} (h : i ∉ l.map (·.1)) : lkH l i = none := by
 cases ho : lkH l i with
 | none => rfl
 | some o => exact absurd (List.mem_map.2 ⟨_, fH ho, rfl⟩) h
theorem mG {α : Type} {f : α → List Nat} : ∀ {l : List α}, (l.flatMap f).Nodup → ∀ {x y : α} {c : Nat}, x ∈ l → y ∈ l → c ∈ f x → c ∈ f y → x = y
 | [], _, x, y, c, hx, _, _, _ => by simp at hx
 | z :: l, hn, x, y, c, hx, hy, h1, h2 => by
  rw [List.flatMap_cons] at hn
  obtain ⟨_, hn2, hn3⟩ := List.nodup_append.1 hn
  rcases List.mem_cons.1 hx with hx' | hx'
  ·rcases List.mem_cons.1 hy with hy' | hy'
   ·rw [hx', hy']
   ·rw [hx'] at h1
    exact absurd rfl (hn3 c h1 c (List.mem_flatMap.2 ⟨y, hy', h2⟩))
  ·rcases List.mem_cons.1 hy with hy' | hy'
   ·rw [hy'] at h2
    exact absurd rfl (hn3 c h2 c (List.mem_flatMap.2 ⟨x, hx', h1⟩))
   ·exact mG hn2 hx' hy' h1 h2
theorem jo {α : Type} {f : α → List Nat} : ∀ {l : List α}, (l.flatMap f).Nodup → ∀ {x : α}, x ∈ l → (f x).Nodup
 | [], _, x, hx => by simp at hx
 | z :: l, hn, x, hx => by
  rw [List.flatMap_cons] at hn
  obtain ⟨hn1, hn2, _⟩ := List.nodup_append.1 hn
  rcases List.mem_cons.1 hx with hx' | hx'
  ·rw [hx']; exact hn1
  ·exact jo hn2 hx'
theorem Fq {F : Fx} {k : K} {id e : Nat} {r : Ty} {xs : List r.den} {us : List Value} {o : Option (List Nat)} {bl : List Nat} (h1 : cZ k.w (F.bs id) e r.sz (k.ν id) xs.length us) (h2 : fG k.w (k.ok F) (F.bs id) r o xs us bl) (h3 : xs.length ≤ lim) (h4 : k.nb id = bl) (h5 : ((ownB (k.ν id)).toList ++ bl).Nodup) : DX F k id (.arr e r xs (dpO o)) := by
 cases o with
 | none => exact ⟨us, h1, h2.1, h3⟩
 | some ns => exact ⟨us, us, h1, by rw [h4]; exact h2, h3, by rw [h4]; exact h5, rfl⟩
theorem XG {k : K} {id e : Nat} {r : Ty} {xs : List r.den} {o : Option (List Nat)} (h : k.h id = some (.arr e r xs (dpO o))) {c : Nat} (hc : k.own id c) : c ∈ (ownB (k.ν id)).toList ++ k.nb id := by
 cases o with
 | none => exact List.mem_append.2 (.inl (by simpa using (wJ h).1 hc))
 | some ns => simpa using (dZ h).1 hc
theorem JW : ∀ {news : List jA}, (news.map jA.n).Nodup → ∀ {x : jA}, x ∈ news → news.find? (fun y => Nat.beq y.n x.n) = some x
 | [], _, x, h => by simp at h
 | z :: news, hn, x, h => by
  simp only [List.map_cons, List.nodup_cons] at hn
  rw [List.find?_cons]
  rcases List.mem_cons.1 h with rfl | h
  ·simp [Nat.beq_refl]
  ·have : Nat.beq z.n x.n = false := by
    cases hb : Nat.beq z.n x.n with
    | false => rfl
    | true =>
     have := Nat.eq_of_beq_eq_true hb
     exact absurd (List.mem_map.2 ⟨x, h, this.symm⟩) hn.1
   rw [this]
   exact JW hn.2 h
theorem aan {F : Fx} {k : K} (hk : aI F k) {okc : Nat → Prop} (hsub : ∀ c, okc c → k.ok F c) {bxs : List (Nat × Hd)} (hbx : ∀ p ∈ bxs, BB k p) (hbn : (bxs.map (·.1)).Nodup) {w' : World} {os bs' : List Nat} {b : List (Nat × Ob)} {nbn : Nat → List Nat} {news : List jA}
 (hsz : k.w.heap.size ≤ w'.heap.size) (hfr : ∀ c, c < k.w.heap.size → c ∉ bxs.flatMap (bsK k) → w'.heap[c]? = k.w.heap[c]?) (hos : w'.os = k.w.os) (htp : w'.tape = k.w.tape) (hou : w'.output = k.w.output)
 (hon : (os ++ bs').Nodup) (hor : ∀ c ∈ os, c ∈ bxs.flatMap (bsK k) ∨ (k.w.heap.size ≤ c ∧ c < w'.heap.size)) (hbr : ∀ c ∈ bs', c ∈ bxs.flatMap (bsK k) ∨ (k.w.heap.size ≤ c ∧ c < w'.heap.size))
 (hbk : b.map (·.1) = bxs.map (·.1)) (hb : ∀ p ∈ b, ahC w' (fun c => okc c ∨ ((k.w.heap.size ≤ c ∨ c ∈ bxs.flatMap (bsK k)) ∧ c < w'.heap.size ∧ c ∉ os ++ bs')) k nbn bxs p) (hbs : bs' = b.flatMap (kE k nbn))
 (hfresh : ∀ x ∈ news, k.h x.n = none) (hnn : (news.map jA.n).Nodup) (hnew : ∀ x ∈ news, amN w' (fun c => okc c ∨ ((k.w.heap.size ≤ c ∨ c ∈ bxs.flatMap (bsK k)) ∧ c < w'.heap.size ∧ c ∉ os ++ bs')) 0 x) (hperm : os.Perm (iy news)) :
 ∃ k', k'.w = w' ∧ k'.h = (k.put (b ++ news.map fun x => (x.n, x.ob))).h ∧ aI F k' ∧ Le F k k' ∧ (∀ c, (okc c ∨ ((k.w.heap.size ≤ c ∨ c ∈ bxs.flatMap (bsK k)) ∧ c < w'.heap.size ∧ c ∉ os ++ bs')) → k'.ok F c) ∧ NI k' news := by
 let k' : K := ⟨w', (k.put (b ++ news.map fun x => (x.n, x.ob))).h, k.μ, fun i => match news.find? (fun y => Nat.beq y.n i) with | some x => x.v | none => k.ν i,
  fun i => match news.find? (fun y => Nat.beq y.n i) with | some x => x.nb | none => if i ∈ b.map (·.1) then nbn i else k.nb i⟩
 have hbmem : ∀ p ∈ b, ∃ hd, (p.1, hd) ∈ bxs ∧ BB k (p.1, hd) := by
  intro p hp
  have : p.1 ∈ bxs.map (·.1) := by rw [← hbk]; exact List.mem_map.2 ⟨p, hp, rfl⟩
  obtain ⟨q, hq, h1⟩ := List.mem_map.1 this
  exact ⟨q.2, by rw [← h1]; exact hq, by rw [← h1]; exact hbx q hq⟩
 have hbsome : ∀ p ∈ bxs, k.h p.1 ≠ none := by
  intro p hp hn
  have := hbx p hp
  unfold BB at this
  split at this
  ·obtain ⟨cs, h⟩ := this; rw [hn] at h; cases h
  ·obtain ⟨xs, h⟩ := this; rw [hn] at h; cases h
  ·obtain ⟨xs, h⟩ := this; rw [hn] at h; cases h
 have hLk : ((b ++ news.map fun x => (x.n, x.ob)).map (·.1)).Nodup := by
  rw [List.map_append, hbk, List.map_map]
  refine List.nodup_append.2 ⟨hbn, hnn, fun i h1 j h2 hij => ?_⟩
  subst hij
  obtain ⟨q, hq, rfl⟩ := List.mem_map.1 h1
  obtain ⟨x, hx, h3⟩ := List.mem_map.1 h2
  have := hfresh x hx
  rw [show x.n = q.1 from h3] at this
  exact hbsome q hq this
 have hhb : ∀ p ∈ b, k'.h p.1 = some p.2 := fun p hp => by
  show (lkH _ p.1).or _ = _
  rw [jl hLk (i := p.1) (o := p.2) (List.mem_append.2 (.inl hp))]
  rfl
 have hhn : ∀ x ∈ news, k'.h x.n = some x.ob := fun x hx => by
  show (lkH _ x.n).or _ = _
  rw [jl hLk (i := x.n) (o := x.ob) (List.mem_append.2 (.inr (List.mem_map.2 ⟨x, hx, rfl⟩)))]
  rfl
 have hho : ∀ i, i ∉ bxs.map (·.1) → i ∉ news.map jA.n → k'.h i = k.h i := fun i h1 h2 => by
  show (lkH _ i).or _ = _
  rw [QB (by
   rw [List.map_append, hbk, List.map_map]
   intro h3
   rcases List.mem_append.1 h3 with h3 | h3
   ·exact h1 h3
   ·exact h2 h3)]
  rfl
 have hfind : ∀ i, i ∉ news.map jA.n → news.find? (fun y => Nat.beq y.n i) = none := by
  intro i hi
  cases hfd : news.find? (fun y => Nat.beq y.n i) with
  | none => rfl
  | some x =>
   have h1 := List.mem_of_find?_eq_some hfd
   have h2 : x.n = i := Nat.eq_of_beq_eq_true (by simpa using List.find?_some hfd)
   exact absurd (List.mem_map.2 ⟨x, h1, h2⟩) hi
 have hνn : ∀ x ∈ news, k'.ν x.n = x.v ∧ k'.nb x.n = x.nb := by
  intro x hx
  show (match news.find? (fun y => Nat.beq y.n x.n) with | some x => x.v | none => k.ν x.n) = x.v ∧ (match news.find? (fun y => Nat.beq y.n x.n) with | some x => x.nb | none => _) = x.nb
  rw [JW hnn hx]
  exact ⟨rfl, rfl⟩
 have hνo : ∀ i, i ∉ news.map jA.n → k'.ν i = k.ν i := by
  intro i hi
  show (match news.find? (fun y => Nat.beq y.n i) with | some x => x.v | none => k.ν i) = k.ν i
  rw [hfind i hi]
 have hnbo : ∀ i, i ∉ news.map jA.n → k'.nb i = if i ∈ b.map (·.1) then nbn i else k.nb i := by
  intro i hi
  show (match news.find? (fun y => Nat.beq y.n i) with | some x => x.nb | none => if i ∈ List.map (fun p : Nat × Ob => p.1) b then nbn i else k.nb i) = _
  rw [hfind i hi]
 have hbnew : ∀ i, i ∈ bxs.map (·.1) → i ∉ news.map jA.n := by
  intro i h1 h2
  obtain ⟨q, hq, rfl⟩ := List.mem_map.1 h1
  obtain ⟨x, hx, h3⟩ := List.mem_map.1 h2
  have := hfresh x hx
  rw [h3] at this
  exact hbsome q hq this
 have hbin : ∀ p ∈ b, p.1 ∈ bxs.map (·.1) := fun p hp => by rw [← hbk]; exact List.mem_map.2 ⟨p, hp, rfl⟩
 have hbν : ∀ p ∈ b, k'.ν p.1 = k.ν p.1 := fun p hp => hνo _ (hbnew _ (hbin p hp))
 have hbnb : ∀ p ∈ b, k'.nb p.1 = nbn p.1 := fun p hp => by rw [hnbo _ (hbnew _ (hbin p hp)), if_pos (List.mem_map.2 ⟨p, hp, rfl⟩)]
 -- what is owned now
 have hownb : ∀ p ∈ b, ∀ c, k'.own p.1 c → c ∈ kE k nbn p := by
  intro p hp c h
  rcases hb p hp with ⟨t, x, cs, T, h1, _⟩ | ⟨h1, _⟩ | ⟨e, r, xs, us, o, h1, _⟩
  ·unfold K.own at h
   rw [hhb p hp, h1] at h
   unfold kE
   rw [h1]
   have h : k.μ p.1 = c := h
   simp [h]
  ·unfold K.own at h
   rw [hhb p hp, h1] at h
   exact h.elim
  ·have := XG (by rw [hhb p hp, h1]) h
   rw [hbν p hp, hbnb p hp] at this
   unfold kE
   rw [h1]
   exact this
 have hownn : ∀ x ∈ news, ∀ c, k'.own x.n c → c ∈ x.bl := by
  intro x hx c h
  obtain ⟨e, r, xs, us, o, h1, _⟩ := hnew x hx
  have := XG (by rw [hhn x hx, h1]) h
  rw [(hνn x hx).1, (hνn x hx).2] at this
  exact this
 have hnews : (iy news).Nodup := (hperm.nodup_iff).1 (List.nodup_append.1 hon).1
 have hback : (b.flatMap (kE k nbn)).Nodup := by rw [← hbs]; exact (List.nodup_append.1 hon).2.1
 have hcross : ∀ x ∈ news, ∀ c ∈ x.bl, ∀ p ∈ b, c ∉ kE k nbn p := by
  intro x hx c h1 p hp h2
  have h3 : c ∈ os := (hperm.mem_iff).2 (List.mem_flatMap.2 ⟨x, hx, h1⟩)
  have h4 : c ∈ bs' := by rw [hbs]; exact List.mem_flatMap.2 ⟨p, hp, h2⟩
  exact (List.nodup_append.1 hon).2.2 c h3 c h4 rfl
 have hTcase : ∀ i, (i ∈ bxs.map (·.1) ∨ i ∈ news.map jA.n) → (∃ p ∈ b, p.1 = i) ∨ ∃ x ∈ news, x.n = i := by
  rintro i (h | h)
  ·rw [← hbk] at h
   obtain ⟨p, hp, h1⟩ := List.mem_map.1 h
   exact .inl ⟨p, hp, h1⟩
  ·obtain ⟨x, hx, h1⟩ := List.mem_map.1 h
   exact .inr ⟨x, hx, h1⟩
 have hbsown : ∀ c ∈ bxs.flatMap (bsK k), ∃ p ∈ bxs, k.own p.1 c := by
  intro c hc
  obtain ⟨p, hp, h1⟩ := List.mem_flatMap.1 hc
  exact ⟨p, hp, (qH (hbx p hp) c).2 h1⟩
 have hownT : ∀ i c, (i ∈ bxs.map (·.1) ∨ i ∈ news.map jA.n) → k'.own i c → (∃ p ∈ bxs, k.own p.1 c) ∨ (k.w.heap.size ≤ c ∧ c < w'.heap.size) := by
  intro i c hi h
  rcases hTcase i hi with ⟨p, hp, rfl⟩ | ⟨x, hx, rfl⟩
  ·have h1 : c ∈ bs' := by rw [hbs]; exact List.mem_flatMap.2 ⟨p, hp, hownb p hp c h⟩
   exact (hbr c h1).imp (hbsown c) (fun h => h)
  ·exact (hor c ((hperm.mem_iff).2 (List.mem_flatMap.2 ⟨x, hx, hownn x hx c h⟩))).imp (hbsown c) (fun h => h)
 have hoko : ∀ c, (okc c ∨ ((k.w.heap.size ≤ c ∨ c ∈ bxs.flatMap (bsK k)) ∧ c < w'.heap.size ∧ c ∉ os ++ bs')) → k'.ok F c := by
  rintro c (hc | ⟨h1, h2, h3⟩)
  ·rcases hsub c hc with hc' | ⟨h1, h2, h3⟩
   ·exact .inl hc'
   ·refine .inr ⟨h1, Nat.lt_of_lt_of_le h2 hsz, fun i hi => ?_⟩
    by_cases hT : i ∈ bxs.map (·.1) ∨ i ∈ news.map jA.n
    ·rcases hownT i c hT hi with ⟨p, _, h4⟩ | ⟨h4, _⟩
     ·exact h3 _ h4
     ·omega
    ·refine h3 i ?_
     have hn1 : i ∉ bxs.map (·.1) := fun h => hT (.inl h)
     have hn2 : i ∉ news.map jA.n := fun h => hT (.inr h)
     have e1 := hho i hn1 hn2
     have e2 := hνo i hn2
     have e3 := hnbo i hn2
     rw [if_neg (by rw [hbk]; exact hn1)] at e3
     unfold K.own at hi ⊢
     rw [e1, e2, e3] at hi
     exact hi
  ·refine .inr ⟨h1.elim (fun h => .inl (Nat.le_trans hk.size h)) (fun h => by
    obtain ⟨p, _, h4⟩ := hbsown c h
    exact (hk.rng _ _ h4).1), h2, fun i hi => ?_⟩
   by_cases hT : i ∈ bxs.map (·.1) ∨ i ∈ news.map jA.n
   ·rcases hTcase i hT with ⟨p, hp, rfl⟩ | ⟨x, hx, rfl⟩
    ·exact h3 (List.mem_append.2 (.inr (by rw [hbs]; exact List.mem_flatMap.2 ⟨p, hp, hownb p hp c hi⟩)))
    ·exact h3 (List.mem_append.2 (.inl ((hperm.mem_iff).2 (List.mem_flatMap.2 ⟨x, hx, hownn x hx c hi⟩))))
   ·have hn1 : i ∉ bxs.map (·.1) := fun h => hT (.inl h)
    have hn2 : i ∉ news.map jA.n := fun h => hT (.inr h)
    have e1 := hho i hn1 hn2
    have e2 := hνo i hn2
    have e3 := hnbo i hn2
    rw [if_neg (by rw [hbk]; exact hn1)] at e3
    have : k.own i c := by
     unfold K.own at hi ⊢
     rw [e1, e2, e3] at hi
     exact hi
    rcases h1 with h1 | h1
    ·have := (hk.rng i c this).2
     omega
    ·obtain ⟨p, hp, h4⟩ := hbsown c h1
     exact hn1 (hk.inj i p.1 c this h4 ▸ List.mem_map.2 ⟨p, hp, rfl⟩)
 have main := aiq hk (k' := k') (fun i => i ∈ bxs.map (·.1) ∨ i ∈ news.map jA.n) hsz (fun c hc hn => hfr c hc fun hm => ?_) hos htp hou (fun i hi => ?_) (fun i hi => ?_) (fun i c hi h => ?_) (fun i j c hi hj h1 h2 => ?_) (fun hle i ob hi ho => ?_)
 ·exact ⟨k', rfl, rfl, main.1, main.2, hoko, fun x hx => ⟨hhn x hx, (hνn x hx).1⟩⟩
 ·obtain ⟨p, hp, h1⟩ := hbsown c hm
  exact hn p.1 (.inl (List.mem_map.2 ⟨p, hp, rfl⟩)) h1
 ·have hn1 : i ∉ bxs.map (·.1) := fun h => hi (.inl h)
  have hn2 : i ∉ news.map jA.n := fun h => hi (.inr h)
  refine ⟨hho i hn1 hn2, rfl, hνo i hn2, ?_⟩
  rw [hnbo i hn2, if_neg (by rw [hbk]; exact hn1)]
 ·rcases hTcase i hi with ⟨p, hp, rfl⟩ | ⟨x, hx, rfl⟩
  ·rcases hb p hp with ⟨t, x, cs, T, h1, h2, _⟩ | ⟨h1, e, r, o, h2⟩ | ⟨e, r, xs, us, o, h1, h2, h3, _⟩
   ·obtain ⟨cs0, h4⟩ := hbx _ h2
    exact .inr (.inr ⟨cs0, unpack t x, h4, by rw [hhb p hp, h1], rfl, hbν p hp⟩)
   ·obtain ⟨xs0, h4⟩ := hbx _ h2
    exact .inr (.inl ⟨e, r, xs0, _, h4, hbν p hp, .inr (.inr (by rw [hhb p hp, h1]))⟩)
   ·obtain ⟨xs0, h4⟩ := hbx _ h2
    refine .inr (.inl ⟨e, r, xs0, _, h4, hbν p hp, .inl ⟨xs, _, by rw [hhb p hp, h1], ?_⟩⟩)
    obtain ⟨us0, h5, _⟩ := OW hk h4
    obtain ⟨a1, c1, e1⟩ := h5.form
    obtain ⟨a2, c2, e2⟩ := h3.form
    rw [e1] at e2
    injection e2 with _ e2 _
    exact e2.symm
  ·exact .inl (hfresh x hx)
 ·rcases hownT i c hi h with ⟨p, hp, h1⟩ | h1
  ·exact .inl ⟨p.1, .inl (List.mem_map.2 ⟨p, hp, rfl⟩), h1⟩
  ·exact .inr h1
 ·rcases hTcase i hi with ⟨p, hp, rfl⟩ | ⟨x, hx, rfl⟩
  ·rcases hTcase j hj with ⟨q, hq, rfl⟩ | ⟨y, hy, rfl⟩
   ·rw [mG hback hp hq (hownb p hp c h1) (hownb q hq c h2)]
   ·exact absurd (hownb p hp c h1) (hcross y hy c (hownn y hy c h2) p hp)
  ·rcases hTcase j hj with ⟨q, hq, rfl⟩ | ⟨y, hy, rfl⟩
   ·exact absurd (hownb q hq c h2) (hcross x hx c (hownn x hx c h1) q hq)
   ·rw [mG hnews hx hy (hownn x hx c h1) (hownn y hy c h2)]
 ·rcases hTcase i hi with ⟨p, hp, rfl⟩ | ⟨x, hx, rfl⟩
  ·rw [hhb p hp] at ho
   have ho := Option.some.inj ho
   subst ho
   have hpn : (kE k nbn p).Nodup := jo hback hp
   rcases hb p hp with ⟨t, x, cs, T, h1, h2, h3, h4⟩ | ⟨h1, _⟩ | ⟨e, r, xs, us, o, h1, h2, h3, h4, h5⟩
   ·rw [h1]
    exact ⟨cs, T, h3, fD (h4.mono hoko (fun _ _ _ => rfl))⟩
   ·rw [h1]
    trivial
   ·rw [h1]
    obtain ⟨xs0, h6⟩ := hbx _ h2
    dsimp only at h6
    have hbb : kE k nbn p = (ownB (k.ν p.1)).toList ++ nbn p.1 := by unfold kE; rw [h1]
    refine Fq (us := us) (bl := nbn p.1) ?_ ?_ h5 (hbnb p hp) ?_
    ·rw [hbν p hp]
     exact h3
    ·exact h4.mono hoko
    ·rw [hbν p hp, ← hbb]
     exact hpn
  ·rw [hhn x hx] at ho
   have ho := Option.some.inj ho
   subst ho
   obtain ⟨e, r, xs, us, o, h1, h2, h3, h4⟩ := hnew x hx
   rw [h1]
   refine Fq (us := us) (bl := x.nb) ?_ ?_ h4 (hνn x hx).2 ?_
   ·rw [(hνn x hx).1]
    exact h2
   ·exact h3.mono hoko
   ·rw [(hνn x hx).1]
    exact jo hnews hx
end Go.MC
namespace Go.MC
open Go.RowKit
theorem tK {S : St} : ∀ {l : List (Nat × Ob)} {u : Unit} {R : List Nat}, bF (sW l) S u R → ∀ p ∈ l, lkH S.H p.1 = none
 | [], _, _, _, p, hp => by simp at hp
 | q :: l, u, R, h, p, hp => by
  unfold sW at h
  obtain ⟨o, _, _, ho, h, _⟩ := ae (Good.rdO _) (fun _ => Good.all _) h
  obtain ⟨_, _, _, hg, h, _⟩ := ae (Good.guard _) (fun _ => Good.all _) h
  rcases List.mem_cons.1 hp with rfl | hp
  ·obtain ⟨rfl, _⟩ := bZ ho
   have := (aB hg).1
   cases hh : lkH S.H p.1 with
   | none => rfl
   | some o => rw [hh] at this; cases this
  ·exact tK h p hp
section mem
variable {P : Program}
theorem alO {F : Fx} {k : K} {cs : List V1} {vs : List Value} (h : fQ F k cs vs) : iq F k (adA cs) (uh vs) := by
 cases cs with
 | nil => simp only [fQ] at h; subst h; exact ⟨[], rfl, rfl⟩
 | cons v cs =>
  obtain ⟨x, xs', rfl, h3, h4⟩ := h
  cases cs with
  | nil => simp only [fQ] at h4; subst h4; exact h3
  | cons v' cs =>
   obtain ⟨x', xs2, rfl, h5, h6⟩ := h4
   exact ⟨_, rfl, x, _, rfl, h3, x', _, rfl, h5, h6⟩
theorem aa7 {Φ : Nat → Option ax} (hΦ : ∀ g vs s, PU Φ g vs = some s → au P g s) : dw P Φ := by
 intro F k S g s dst avs args U R hk hS hs ha h
 obtain ⟨hcall, hcon⟩ := hΦ g avs s hs
 unfold jV at h
 obtain ⟨favs, _, _, hfa, h, _⟩ := ae (Good.aY _) (fun _ => Good.all _) h
 obtain ⟨fargs, hfv, ha⟩ := fB (aH hfa).1 ha
 obtain ⟨z, _, _, hz, h, _⟩ := ae (ji _ _ _) (fun _ => Good.all _) h
 obtain ⟨_, _, _, hpre, h, _⟩ := ae (Good.guard _) (fun _ => Good.all _) h
 obtain ⟨_, _, _, hfl, h, _⟩ := ae (Good.guard _) (fun _ => Good.all _) h
 obtain ⟨r, _, _, hr, h, _⟩ := ae (Good.aY _) (fun _ => Good.all _) h
 obtain ⟨_, _, _, hnd, h, _⟩ := ae (Good.guard _) (fun _ => Good.all _) h
 obtain ⟨b, _, _, hb, h, _⟩ := ae (Good.aY _) (fun _ => Good.all _) h
 obtain ⟨_, _, _, hfresh, h, _⟩ := ae (Jt _) (fun _ => Good.all _) h
 obtain ⟨rfl, _⟩ := af h
 obtain ⟨ds, bxs, obs⟩ := z
 obtain ⟨vs1, nobs, rest, id'⟩ := r
 have hpre := (aB hpre).1
 have hfl := (aB hfl).1
 have hnd := mW (aB hnd).1
 have hr := (aH hr).1
 have hb := (aH hb).1
 have hfresh := tK hfresh
 dsimp only at hpre hfl hnd hr hb hfresh
 simp only [Bool.and_eq_true] at hfl
 obtain ⟨⟨hfl, hbn⟩, htwo⟩ := hfl
 have hbn := mW hbn
 obtain ⟨l, hT, hF, hZ, hargs, hbx, hbxo⟩ := iQ hk hS hz ha
 obtain ⟨hk1, hle1, hok1⟩ := freeze hk hF
 have htwo' : ∀ p ∈ bxs, p.1 ∉ obs.map (·.1) := by
  intro p hp hm
  obtain ⟨q, hq, h1⟩ := List.mem_map.1 hm
  have h2 := List.all_eq_true.1 htwo p hp
  have h3 := List.all_eq_true.1 h2 q hq
  rw [h1, Nat.beq_refl] at h3
  cases h3
 have hh1 : ∀ p ∈ bxs, (k.put obs).h p.1 = k.h p.1 := fun p hp => by
  show (lkH obs p.1).or (k.h p.1) = _
  rw [QB (htwo' p hp)]
  rfl
 have hbx1 : ∀ p ∈ bxs, BB (k.put obs) p := by
  intro p hp
  have h1 := hbx p hp
  unfold BB at h1 ⊢
  rw [hh1 p hp]
  exact h1
 have hokT_lt : ∀ c, k.okT F l c → c < k.w.heap.size := by
  rintro c (hc | ⟨id, _, ho⟩)
  ·exact K.ok_lt hk hc
  ·exact (hk.rng id c ho).2
 have hbs : (bxs.flatMap (bsK k)).Nodup := by
  have : ∀ {bx : List (Nat × Hd)}, (∀ p ∈ bx, BB k p) → (bx.map (·.1)).Nodup → (bx.flatMap (bsK k)).Nodup := by
   intro bx
   induction bx with
   | nil => exact fun _ _ => List.nodup_nil
   | cons p bx ih =>
    intro h1 h2
    simp only [List.map_cons, List.nodup_cons] at h2
    rw [List.flatMap_cons]
    refine List.nodup_append.2 ⟨Bg hk (h1 p (by simp)), ih (fun q hq => h1 q (by simp [hq])) h2.2, fun c hc c' hc' hcc => ?_⟩
    subst hcc
    obtain ⟨q, hq, h3⟩ := List.mem_flatMap.1 hc'
    have h4 := (qH (h1 p (by simp)) c).2 hc
    have h5 := (qH (h1 q (by simp [hq])) c).2 h3
    exact h2.1 (List.mem_map.2 ⟨q, hq, hk.inj q.1 p.1 _ h5 h4⟩)
  exact this hbx hbn
 have hbr : ∀ c ∈ bxs.flatMap (bsK k), c < k.w.heap.size ∧ ¬ k.okT F l c := by
  intro c hc
  obtain ⟨p, hp, h0⟩ := List.mem_flatMap.1 hc
  have h1 := (qH (hbx p hp) c).2 h0
  refine ⟨(hk.rng _ _ h1).2, ?_⟩
  rintro (h2 | ⟨id, hi, h2⟩)
  ·exact K.ok_own hk h2 _ h1
  ·obtain rfl := hk.inj id p.1 _ h2 h1
   cases hfz : s.fz with
   | true => exact htwo' p hp (hZ hfz _ hi)
   | false =>
    rw [hfz] at hfl
    simp only [Bool.false_or, Bool.and_eq_true] at hfl
    have : bxs = [] := by simpa using hfl.2
    rw [this] at hp
    simp at hp
 refine .inr (.inr ⟨g, args.toArray, hcall _ _, (hcon k.w (k.okT F l) args fargs ds _ _ hfv hargs hbs hbr hokT_lt (F.gv.move (fun b h => .inl (.inl h)) fun b h => hk.frame b (F.lt b h) (F.ne b h)) hpre).mono ?_⟩)
 rintro e w' ⟨vs, rest', own, bs', rfl, hsz, hfr, hos, htp, hou, hon, hor, hbr', hres, hbox⟩
 obtain ⟨okc, hsub, hres, hboxes⟩ : ∃ okc : Nat → Prop, (∀ c, okc c → (k.put obs).ok F c) ∧ kz w' (fun c => okc c ∨ ((k.w.heap.size ≤ c ∨ c ∈ bxs.flatMap (bsK k)) ∧ c < w'.heap.size ∧ c ∉ own ++ bs')) 0 s.rs vs (s.out ds) rest' own ∧
  (rest = rest' → b.map (·.1) = bxs.map (·.1) ∧ ∃ nbn : Nat → List Nat, (∀ p ∈ b, ahC w' (fun c => okc c ∨ ((k.w.heap.size ≤ c ∨ c ∈ bxs.flatMap (bsK k)) ∧ c < w'.heap.size ∧ c ∉ own ++ bs')) k nbn bxs p) ∧ bs' = b.flatMap (kE k nbn)) := by
  cases hfz : s.fz with
  | true => exact ⟨k.okT F l, fun c hc => hok1 c (dN (hZ hfz) hc), hres, fun he => gp hb hbxo hbn (he ▸ hbox)⟩
  | false =>
   rw [hfz] at hfl
   simp only [Bool.false_or, Bool.and_eq_true] at hfl
   refine ⟨fun _ => False, fun _ h => h.elim, hres.flat hfl.1, fun he => ?_⟩
   have hb0 : bxs = [] := by simpa using hfl.2
   obtain ⟨h1, nbn, h2, h3⟩ := gp hb hbxo hbn (he ▸ hbox)
   have hbe : b = [] := by
    rw [hb0] at h1
    simpa using h1
   subst hbe
   exact ⟨h1, nbn, fun _ h => by simp at h, h3⟩
 obtain ⟨hrest, news, hnobs, hnews, hperm, hrel⟩ := iU (F := F) hr hres
 obtain ⟨hbk, nbn, hbb, hbsq⟩ := hboxes hrest
 have hkn : ∀ x ∈ news, (k.put obs).h x.n = none := by
  intro x hx
  have h1 : k.h x.n = none := by
   rw [hS]
   exact hfresh (x.n, x.ob) (by rw [hnobs]; exact List.mem_map.2 ⟨x, hx, rfl⟩)
  show (lkH obs x.n).or (k.h x.n) = none
  rw [h1]
  cases hh : lkH obs x.n with
  | none => rfl
  | some o =>
   obtain ⟨e', r', xs', dd, h2, _⟩ := hF _ (fH hh)
   rw [show k.h x.n = _ from h2] at h1
   cases h1
 have hnn : (news.map jA.n).Nodup := by
  rw [hnobs, List.map_map] at hnd
  exact hnd
 obtain ⟨k', hw, hh, hk', hle, hokk, hni⟩ := aan hk1 (okc := okc) hsub (bxs := bxs) hbx1 hbn (w' := w') (os := own) (bs' := bs') (b := b) (nbn := nbn) (news := news) hsz hfr hos htp hou hon hor hbr' hbk hbb hbsq hkn hnn hnews hperm
 refine ⟨_, k', rfl, hw.symm, ?_, hk', hle1.trans hle, alO (hrel k' hw hokk hni)⟩
 rw [hh, FB, hnobs, List.append_assoc]
end mem
end Go.MC
namespace Go.MC
open Go.RowKit
def IU : List PS → List Dv → Prop
 | [], ds => ds = []
 | .d t _ :: ps, ds => ∃ x ds', ds = ⟨t, x⟩ :: ds' ∧ Fit t x ∧ IU ps ds'
 | .bx t :: ps, ds => ∃ x ds', ds = ⟨t, x⟩ :: ds' ∧ Fit t x ∧ IU ps ds'
 | .ow _ r _ :: ps, ds => ∃ x ds', ds = ⟨.slice r, x⟩ :: ds' ∧ Fit (.slice r) x ∧ IU ps ds'
 | .mv _ r _ :: ps, ds => ∃ x ds', ds = ⟨.slice r, x⟩ :: ds' ∧ Fit (.slice r) x ∧ IU ps ds'
 | .sp _ :: _, _ => False
 | .cl _ _ :: _, _ => False
 | .cr _ _ :: _, _ => False
 | .rx t :: ps, ds => ∃ x ds', ds = ⟨t, x⟩ :: ds' ∧ Fit t x ∧ IU ps ds'
theorem jk {w : World} {ok : Nat → Prop} : ∀ {ps : List PS} {vs : List Value} {ds : List Dv} {hv : List HV} {bs : List Nat}, jd w ok ps vs ds hv bs → IU ps ds
 | [], _, _, _, _, h => h.2.1
 | .d t agg :: ps, _, _, _, _, h => by
  obtain ⟨v, vs', x, ds', cs, rfl, rfl, h1, h2, h3⟩ := h
  exact ⟨x, ds', rfl, h1.fit, jk h3⟩
 | .bx t :: ps, _, _, _, _, h => by
  obtain ⟨b, vs', x, ds', cs, T, hv', bs', rfl, rfl, rfl, rfl, h1, h2, h3⟩ := h
  exact ⟨x, ds', rfl, h2.fit, jk h3⟩
 | .ow e r o :: ps, _, _, _, _, h => by
  obtain ⟨v, vs', x, ds', us, bl, hv', bs', rfl, rfl, rfl, rfl, h1, h2, h3, h4⟩ := h
  exact ⟨x, ds', rfl, ⟨h3, h2.fit⟩, jk h4⟩
 | .mv e r o :: ps, _, _, _, _, h => by
  obtain ⟨v, vs', x, ds', us, bl, hv', bs', rfl, rfl, rfl, rfl, h1, h2, h3, h4⟩ := h
  exact ⟨x, ds', rfl, ⟨h3, h2.fit⟩, jk h4⟩
 | .sp _ :: _, _, _, _, _, h => h.elim
 | .cl _ _ :: _, _, _, _, _, h => h.elim
 | .cr _ _ :: _, _, _, _, _, h => h.elim
 | .rx t :: ps, _, _, _, _, h => by
  obtain ⟨b, vs', x, ds', cs, T, rfl, rfl, h0, h1, h2, h3⟩ := h
  exact ⟨x, ds', rfl, h2.fit, jk h3⟩
structure Lie where
 n : Nat
 μ : Nat
 ν : Value
 nb : List Nat
def apD (k : K) (x : Lie) : Prop := k.μ x.n = x.μ ∧ k.ν x.n = x.ν ∧ k.nb x.n = x.nb
theorem JL {i : Nat} (h : Nat.blt i 100000 = true) : bP (jc i) = true := by
 have h : i + 1 ≤ 100000 := Nat.le_of_ble_eq_true h
 unfold bP jc
 rw [Nat.ble_eq_true_of_le (by omega), Bool.true_and]
 exact Nat.ble_eq_true_of_le (by omega)
def arM : Hd → Bool
 | .bx _ => true
 | _ => false
theorem kX {w : World} {ok : Nat → Prop} : ∀ {ps : List PS} {i : Nat} {args : List Value} {ds : List Dv} {hv : List HV} {bs : List Nat} {avs : List AV} {H : List (Nat × Ob)} {bxs : List (Nat × Hd)}, DW i ps ds = some (avs, H, bxs) → jd w ok ps args ds hv bs →
 ∃ lies : List Lie, H.map (·.1) = bxs.map (·.1) ∧ lies.map Lie.n = bxs.map (·.1) ∧ avs.length = ps.length ∧ (∀ p ∈ bxs, (∃ j, i ≤ j ∧ j < 100000 ∧ p.1 = lV j ∧ arM p.2 = true) ∨ (∃ j, i ≤ j ∧ j < 100000 ∧ p.1 = jc j ∧ DY p.2 = false) ∨ ∃ j, i ≤ j ∧ j < 100000 ∧ p.1 = uS j ∧ DY p.2 = true) ∧ (bxs.map (·.1)).Nodup ∧ Jd ps bxs ∧
   ∀ {F : Fx} {k : K}, k.w = w → (∀ c, ok c → k.ok F c) → (∀ p ∈ H, k.h p.1 = some p.2) → (∀ x ∈ lies, apD k x) → bs.Nodup → dw.relAs F k avs args ∧ (∀ p ∈ H, DX F k p.1 p.2) ∧ bxs.map (hvK k) = hv ∧ (∀ p ∈ bxs, BB k p) ∧ bxs.flatMap (bsK k) = bs
 | [], i, args, ds, hv, bs, avs, H, bxs, hp, h => by
  obtain ⟨rfl, rfl, rfl, rfl⟩ := h
  simp only [DW, Option.some.injEq, Prod.mk.injEq] at hp
  obtain ⟨rfl, rfl, rfl⟩ := hp
  exact ⟨[], rfl, rfl, rfl, fun _ h => by simp at h, List.nodup_nil, rfl, fun _ _ _ _ _ => ⟨rfl, fun _ h => by simp at h, rfl, fun _ h => by simp at h, rfl⟩⟩
 | .d t agg :: ps, i, args, ds, hv, bs, avs, H, bxs, hp, h => by
  obtain ⟨v, vs', x, ds', cs, rfl, rfl, h1, h2, h3⟩ := h
  simp only [DW, dQ] at hp
  split at hp
  case h_2 => cases hp
  rename_i x' z hx' hz
  cases hx'
  obtain ⟨z1, z2, z3⟩ := z
  simp only [Option.some.injEq, Prod.mk.injEq] at hp
  obtain ⟨rfl, rfl, rfl⟩ := hp
  obtain ⟨lies, g1, g2, g3, g4, g5, g6, g7⟩ := kX hz h3
  refine ⟨lies, g1, g2, by simp [g3], fun p hp => ?_, g5, g6, fun {F k} hw ho hH hl hn => ?_⟩
  ·rcases g4 p hp with ⟨j, a, b⟩ | ⟨j, a, b⟩ | ⟨j, a, b⟩
   ·exact .inl ⟨j, by omega, b⟩
   ·exact .inr (.inl ⟨j, by omega, b⟩)
   ·exact .inr (.inr ⟨j, by omega, b⟩)
  ·obtain ⟨h4, h5⟩ := g7 (F := F) hw ho hH hl hn
   refine ⟨⟨v, vs', rfl, ?_, h4⟩, h5⟩
   have hrd : Rd k.w (k.ok F) t x cs := by rw [hw]; exact h1.mono ho (fun _ _ _ => rfl)
   cases agg with
   | true => exact (uG (fD hrd) h2).1 rfl
   | false =>
    have : cs = [v] := by simpa [shape] using h2
    subst this
    exact hrd
 | .bx t :: ps, i, args, ds, hv, bs, avs, H, bxs, hp, h => by
  obtain ⟨b, vs', x, ds', cs, T, hv', bs', rfl, rfl, rfl, rfl, h1, h2, h3⟩ := h
  simp only [DW, dQ] at hp
  split at hp
  case h_2 => cases hp
  rename_i x' z hx' hz
  cases hx'
  obtain ⟨z1, z2, z3⟩ := z
  cases hi : Nat.blt i 100000 with
  | false => rw [hi] at hp; cases hp
  | true =>
  rw [hi] at hp
  simp only [cond_true, Option.some.injEq, Prod.mk.injEq] at hp
  obtain ⟨rfl, rfl, rfl⟩ := hp
  have hi' : i < 100000 := Nat.le_of_ble_eq_true hi
  obtain ⟨lies, g1, g2, g3, g4, g5, g6, g7⟩ := kX hz h3
  refine ⟨⟨lV i, b, .slice none 0 0, []⟩ :: lies, by simp [g1], by simp [g2], by simp [g3], fun p hp => ?_, ?_, ⟨_, _, rfl, g6⟩, fun {F k} hw ho hH hl hn => ?_⟩
  ·rcases List.mem_cons.1 hp with rfl | hp
   ·exact .inl ⟨i, Nat.le_refl _, hi', rfl, rfl⟩
   ·rcases g4 p hp with ⟨j, a, b⟩ | ⟨j, a, b⟩ | ⟨j, a, b⟩
    ·exact .inl ⟨j, by omega, b⟩
    ·exact .inr (.inl ⟨j, by omega, b⟩)
    ·exact .inr (.inr ⟨j, by omega, b⟩)
  ·simp only [List.map_cons, List.nodup_cons]
   refine ⟨fun hm => ?_, g5⟩
   obtain ⟨p, hp, h4⟩ := List.mem_map.1 hm
   rcases g4 p hp with ⟨j, a, b, c, _⟩ | ⟨j, a, b, c, _⟩ | ⟨j, a, b, c, _⟩
   ·rw [c] at h4; simp only [lV] at h4; omega
   ·rw [c] at h4; simp only [lV, jc] at h4; omega
   ·rw [c] at h4; simp only [lV, uS] at h4; omega
  ·obtain ⟨h4, h5, h6, h7, h8⟩ := g7 (F := F) hw ho (fun p hp => hH p (by simp [hp])) (fun q hq => hl q (by simp [hq])) (List.nodup_append.1 hn).2.1
   have hb : k.μ (lV i) = b := (hl _ List.mem_cons_self).1
   have hbox := hH (lV i, .box (unpack t x)) (by simp)
   refine ⟨⟨_, vs', rfl, ⟨⟨_, hbox⟩, by rw [hb]⟩, h4⟩, fun p hp => ?_, by rw [List.map_cons, h6]; show HV.bx (k.μ (lV i)) :: hv' = _; rw [hb], fun p hp => ?_, by rw [List.flatMap_cons, h8]; show [k.μ (lV i)] ++ bs' = _; rw [hb]⟩
   ·rcases List.mem_cons.1 hp with rfl | hp
    ·refine ⟨cs, T, by rw [hb, hw]; exact h1, fD (by rw [hw]; exact h2.mono ho (fun _ _ _ => rfl))⟩
    ·exact h5 p hp
   ·rcases List.mem_cons.1 hp with rfl | hp
    ·exact ⟨_, hbox⟩
    ·exact h7 p hp
 | .ow e r o :: ps, i, args, ds, hv, bs, avs, H, bxs, hp, h => by
  obtain ⟨v, vs', x, ds', us, bl, hv', bs', rfl, rfl, rfl, rfl, h1, h2, hlim, h3⟩ := h
  simp only [DW, dQ] at hp
  split at hp
  case h_2 => cases hp
  rename_i x' z hx' hz
  cases hx'
  obtain ⟨z1, z2, z3⟩ := z
  cases hi : Nat.blt i 100000 with
  | false => rw [hi] at hp; cases hp
  | true =>
   rw [hi] at hp
   simp only [cond_true, Option.some.injEq, Prod.mk.injEq] at hp
   obtain ⟨rfl, rfl, rfl⟩ := hp
   have hi' : i + 1 ≤ 100000 := Nat.le_of_ble_eq_true hi
   have hpar := JL hi
   obtain ⟨lies, g1, g2, g3, g4, g5, g6, g7⟩ := kX hz h3
   refine ⟨⟨jc i, 0, v, bl⟩ :: lies, by simp [g1], by simp [g2], by simp [g3], fun p hp => ?_, ?_, ⟨_, _, rfl, g6⟩, fun {F k} hw ho hH hl hn => ?_⟩
   ·rcases List.mem_cons.1 hp with rfl | hp
    ·exact .inr (.inl ⟨i, Nat.le_refl _, by omega, rfl, rfl⟩)
    ·rcases g4 p hp with ⟨j, a, b⟩ | ⟨j, a, b⟩ | ⟨j, a, b⟩
     ·exact .inl ⟨j, by omega, b⟩
     ·exact .inr (.inl ⟨j, by omega, b⟩)
     ·exact .inr (.inr ⟨j, by omega, b⟩)
   ·simp only [List.map_cons, List.nodup_cons]
    refine ⟨fun hm => ?_, g5⟩
    obtain ⟨p, hp, h4⟩ := List.mem_map.1 hm
    rcases g4 p hp with ⟨j, a, b, c, _⟩ | ⟨j, a, b, c, _⟩ | ⟨j, a, b, c, _⟩
    ·rw [c] at h4; simp only [lV, jc] at h4; omega
    ·rw [c] at h4; simp only [jc] at h4; omega
    ·rw [c] at h4; simp only [jc, uS] at h4; omega
   ·obtain ⟨h4, h5, h6, h7, h8⟩ := g7 (F := F) hw ho (fun p hp => hH p (by simp [hp])) (fun q hq => hl q (by simp [hq])) (List.nodup_append.1 hn).2.1
    obtain ⟨_, hν, hnb⟩ := hl _ List.mem_cons_self
    dsimp only at hν hnb
    have harr := hH (jc i, .arr e r x (dpO o)) (by simp)
    have hbs : F.bs (jc i) = 0 := rfl
    obtain ⟨a, c, hform⟩ := h1.form
    refine ⟨⟨_, vs', rfl, ⟨⟨a, _, c, hform⟩, by rw [show k.h (jc i) = _ from harr]; exact hν.symm⟩, h4⟩, fun p hp => ?_, by rw [List.map_cons, h6]; show HV.ow (k.ν (jc i)) :: hv' = _; rw [hν], fun p hp => ?_, ?_⟩
    ·rcases List.mem_cons.1 hp with rfl | hp
     ·refine Fq (us := us) (bl := bl) ?_ ?_ hlim hnb ?_
      ·rw [hbs, hν, hw]; exact h1
      ·rw [hbs, hw]; exact h2.mono ho
      ·rw [hν]; exact (List.nodup_append.1 hn).1
     ·exact h5 p hp
    ·rcases List.mem_cons.1 hp with rfl | hp
     ·exact ⟨_, harr⟩
     ·exact h7 p hp
    ·rw [List.flatMap_cons, h8]
     show ((ownB (k.ν (jc i))).toList ++ nbK k (jc i) o) ++ bs' = _
     rw [hν]
     cases o with
     | none => rw [h2.2]; rfl
     | some ns => show (_ ++ k.nb (jc i)) ++ _ = _; rw [hnb]
 | .mv e r o :: ps, i, args, ds, hv, bs, avs, H, bxs, hp, h => by
  obtain ⟨v, vs', x, ds', us, bl, hv', bs', rfl, rfl, rfl, rfl, h1, h2, hlim, h3⟩ := h
  simp only [DW, dQ] at hp
  split at hp
  case h_2 => cases hp
  rename_i x' z hx' hz
  cases hx'
  obtain ⟨z1, z2, z3⟩ := z
  cases hi : Nat.blt i 100000 with
  | false => rw [hi] at hp; cases hp
  | true =>
   rw [hi] at hp
   simp only [cond_true, Option.some.injEq, Prod.mk.injEq] at hp
   obtain ⟨rfl, rfl, rfl⟩ := hp
   have hi' : i + 1 ≤ 100000 := Nat.le_of_ble_eq_true hi
   obtain ⟨lies, g1, g2, g3, g4, g5, g6, g7⟩ := kX hz h3
   refine ⟨⟨uS i, 0, v, bl⟩ :: lies, by simp [g1], by simp [g2], by simp [g3], fun p hp => ?_, ?_, ⟨_, _, rfl, g6⟩, fun {F k} hw ho hH hl hn => ?_⟩
   ·rcases List.mem_cons.1 hp with rfl | hp
    ·exact .inr (.inr ⟨i, Nat.le_refl _, by omega, rfl, rfl⟩)
    ·rcases g4 p hp with ⟨j, a, b⟩ | ⟨j, a, b⟩ | ⟨j, a, b⟩
     ·exact .inl ⟨j, by omega, b⟩
     ·exact .inr (.inl ⟨j, by omega, b⟩)
     ·exact .inr (.inr ⟨j, by omega, b⟩)
   ·simp only [List.map_cons, List.nodup_cons]
    refine ⟨fun hm => ?_, g5⟩
    obtain ⟨p, hp, h4⟩ := List.mem_map.1 hm
    rcases g4 p hp with ⟨j, a, b, c, _⟩ | ⟨j, a, b, c, _⟩ | ⟨j, a, b, c, _⟩
    ·rw [c] at h4; simp only [lV, uS] at h4; omega
    ·rw [c] at h4; simp only [jc, uS] at h4; omega
    ·rw [c] at h4; simp only [uS] at h4; omega
   ·obtain ⟨h4, h5, h6, h7, h8⟩ := g7 (F := F) hw ho (fun p hp => hH p (by simp [hp])) (fun q hq => hl q (by simp [hq])) (List.nodup_append.1 hn).2.1
    obtain ⟨_, hν, hnb⟩ := hl _ List.mem_cons_self
    dsimp only at hν hnb
    have harr := hH (uS i, .arr e r x (dpO o)) (by simp)
    have hbs : F.bs (uS i) = 0 := rfl
    obtain ⟨a, c, hform⟩ := h1.form
    refine ⟨⟨_, vs', rfl, ⟨⟨a, _, c, hform⟩, by rw [show k.h (uS i) = _ from harr]; exact hν.symm⟩, h4⟩, fun p hp => ?_, by rw [List.map_cons, h6]; rfl, fun p hp => ?_, ?_⟩
    ·rcases List.mem_cons.1 hp with rfl | hp
     ·refine Fq (us := us) (bl := bl) ?_ ?_ hlim hnb ?_
      ·rw [hbs, hν, hw]; exact h1
      ·rw [hbs, hw]; exact h2.mono ho
      ·rw [hν]; exact (List.nodup_append.1 hn).1
     ·exact h5 p hp
    ·rcases List.mem_cons.1 hp with rfl | hp
     ·exact ⟨_, harr⟩
     ·exact h7 p hp
    ·rw [List.flatMap_cons, h8]
     show ((ownB (k.ν (uS i))).toList ++ nbK k (uS i) o) ++ bs' = _
     rw [hν]
     cases o with
     | none => rw [h2.2]; rfl
     | some ns => show (_ ++ k.nb (uS i)) ++ _ = _; rw [hnb]
 | .sp _ :: _, i, args, ds, hv, bs, avs, H, bxs, hp, h => h.elim
 | .cl _ _ :: _, i, args, ds, hv, bs, avs, H, bxs, hp, h => h.elim
 | .cr _ _ :: _, i, args, ds, hv, bs, avs, H, bxs, hp, h => h.elim
 | .rx _ :: _, i, args, ds, hv, bs, avs, H, bxs, hp, h => by simp [DW] at hp
theorem wZ {F : Fx} {k : K} : ∀ {n : Nat} {favs : List AV} {z : List Nat × List AV} {fargs : List Value}, AB n favs = some z → dw.relAs F k favs fargs →
 ∃ fs, z.1.length = n ∧ fargs = (z.1.map fun id => Value.pointer (some ⟨k.μ id, 0, none⟩)) ++ fs ∧ (∀ id ∈ z.1, ∃ cs, k.h id = some (.box cs)) ∧ dw.relAs F k z.2 fs
 | 0, favs, z, fargs, h, ha => by
  simp only [AB, Option.some.injEq] at h
  subst h
  exact ⟨fargs, rfl, rfl, fun _ h => by simp at h, ha⟩
 | n + 1, [], z, fargs, h, ha => by simp [AB] at h
 | n + 1, v :: favs, z, fargs, h, ha => by
  unfold AB at h
  split at h
  ·rename_i h1; cases h1
  ·rename_i m id vs h1 h2
   cases h2
   injection h1 with h1
   subst h1
   split at h
   ·rename_i y hy
    simp only [Option.some.injEq] at h
    subst h
    obtain ⟨x, xs, rfl, hx, hxs⟩ := ha
    obtain ⟨fs, h3, h4, h5, h6⟩ := wZ hy hxs
    obtain ⟨h7, h8⟩ := hx
    refine ⟨fs, by simp [h3], by simp [h4, h8], fun i hi => ?_, h6⟩
    rcases List.mem_cons.1 hi with rfl | hi
    ·exact h7
    ·exact h5 i hi
   ·cases h
  ·cases h
theorem DT {F : Fx} {k : K} : ∀ {n : Nat} {favs : List AV} {z : List C × List AV} {fargs : List Value}, KT n favs = some z → dw.relAs F k favs fargs →
 ∃ ws fs, ws.length = n ∧ fargs = ws ++ fs ∧ bK F k z.1 ws ∧ dw.relAs F k z.2 fs
 | 0, favs, z, fargs, h, ha => by
  simp only [KT, Option.some.injEq] at h
  subst h
  exact ⟨[], fargs, rfl, rfl, rfl, ha⟩
 | n + 1, [], z, fargs, h, ha => by simp [KT] at h
 | n + 1, v :: favs, z, fargs, h, ha => by
  unfold KT at h
  split at h
  ·rename_i h1; cases h1
  ·rename_i m c vs h1 h2
   cases h2
   injection h1 with h1
   subst h1
   split at h
   ·rename_i y hy
    simp only [Option.some.injEq] at h
    subst h
    obtain ⟨x, xs, rfl, hx, hxs⟩ := ha
    obtain ⟨ws, fs, h3, h4, h5, h6⟩ := DT hy hxs
    exact ⟨x :: ws, fs, by simp [h3], by simp [h4], ⟨x, ws, rfl, hx, h5⟩, h6⟩
   ·cases h
  ·cases h
theorem iK {F : Fx} {k : K} : ∀ {ps : List PS} {favs avs : List AV} {args fargs : List Value}, lT ps favs = some avs → rH ps args fargs → dw.relAs F k favs fargs → dw.relAs F k avs args ∧ avs.length = ps.length
 | [], [], avs, args, fargs, h, hf, ha => by
  simp only [lT, Option.some.injEq] at h
  subst h
  obtain ⟨rfl, _⟩ := hf
  exact ⟨rfl, rfl⟩
 | [], _ :: _, avs, args, fargs, h, hf, ha => by simp [lT] at h
 | .rx _ :: _, _, avs, args, fargs, h, hf, ha => by simp [lT] at h
 | .cr _ _ :: _, _, avs, args, fargs, h, hf, ha => by simp [lT] at h
 | .d t a :: ps, [], avs, args, fargs, h, hf, ha => by simp [lT] at h
 | .bx t :: ps, [], avs, args, fargs, h, hf, ha => by simp [lT] at h
 | .ow e r o :: ps, [], avs, args, fargs, h, hf, ha => by simp [lT] at h
 | .ow e r o :: ps, v :: favs, avs, args, fargs, h, hf, ha => by
  obtain ⟨x, vs', us', rfl, rfl, hf⟩ := hf
  obtain ⟨y, ys, he, hx, hxs⟩ := ha
  cases he
  simp only [lT] at h
  split at h
  ·rename_i z hz
   simp only [Option.some.injEq] at h
   subst h
   obtain ⟨h1, h2⟩ := iK hz hf hxs
   exact ⟨⟨x, vs', rfl, hx, h1⟩, by simp [h2]⟩
  ·cases h
 | .mv e r o :: ps, v :: favs, avs, args, fargs, h, hf, ha => by
  obtain ⟨x, vs', us', rfl, rfl, hf⟩ := hf
  obtain ⟨y, ys, he, hx, hxs⟩ := ha
  cases he
  simp only [lT] at h
  split at h
  ·rename_i z hz
   simp only [Option.some.injEq] at h
   subst h
   obtain ⟨h1, h2⟩ := iK hz hf hxs
   exact ⟨⟨x, vs', rfl, hx, h1⟩, by simp [h2]⟩
  ·cases h
 | .mv e r o :: ps, [], avs, args, fargs, h, hf, ha => by simp [lT] at h
 | .sp l :: ps, favs, avs, args, fargs, h, hf, ha => by
  obtain ⟨cs, vs', us', rfl, rfl, hl, hf⟩ := hf
  simp only [lT] at h
  split at h
  ·rename_i z hz
   split at h
   ·rename_i y hy
    simp only [Option.some.injEq] at h
    subst h
    obtain ⟨ws, fs, h3, h4, h5, h6⟩ := DT hz ha
    have h7 := List.append_inj h4 (by rw [hl, h3])
    obtain ⟨rfl, rfl⟩ := h7
    obtain ⟨h8, h9⟩ := iK hy hf h6
    exact ⟨⟨_, vs', rfl, ⟨cs, rfl, h5⟩, h8⟩, by simp [h9]⟩
   ·cases h
  ·cases h
 | .d t a :: ps, v :: favs, avs, args, fargs, h, hf, ha => by
  obtain ⟨x, vs', us', rfl, rfl, hf⟩ := hf
  obtain ⟨y, ys, he, hx, hxs⟩ := ha
  cases he
  simp only [lT] at h
  split at h
  ·rename_i z hz
   simp only [Option.some.injEq] at h
   subst h
   obtain ⟨h1, h2⟩ := iK hz hf hxs
   exact ⟨⟨x, vs', rfl, hx, h1⟩, by simp [h2]⟩
  ·cases h
 | .bx t :: ps, v :: favs, avs, args, fargs, h, hf, ha => by
  obtain ⟨x, vs', us', rfl, rfl, hf⟩ := hf
  obtain ⟨y, ys, he, hx, hxs⟩ := ha
  cases he
  simp only [lT] at h
  split at h
  ·rename_i z hz
   simp only [Option.some.injEq] at h
   subst h
   obtain ⟨h1, h2⟩ := iK hz hf hxs
   exact ⟨⟨x, vs', rfl, hx, h1⟩, by simp [h2]⟩
  ·cases h
 | .cl g ts :: ps, favs, avs, args, fargs, h, hf, ha => by
  obtain ⟨caps, vs', us', rfl, rfl, hl, hf⟩ := hf
  simp only [lT] at h
  split at h
  ·rename_i z hz
   split at h
   ·rename_i y hy
    simp only [Option.some.injEq] at h
    subst h
    obtain ⟨fs, h3, h4, h5, h6⟩ := wZ hz ha
    have h7 := List.append_inj h4 (by simp [h3, hl])
    obtain ⟨rfl, rfl⟩ := h7
    obtain ⟨h8, h9⟩ := iK hy hf h6
    exact ⟨⟨_, vs', rfl, ⟨h5, rfl⟩, h8⟩, by simp [h9]⟩
   ·cases h
  ·cases h
def QJ (k : K) (id : Nat) : List Nat := match k.h id with
 | some (.arr _ _ _ .no) => (ownB (k.ν id)).toList
 | some (.arr _ _ _ (.yes _ _)) => (ownB (k.ν id)).toList ++ k.nb id
 | _ => []
def qw (k : K) (ids : List Nat) : List Nat := ids.flatMap (QJ k)
theorem yS {k : K} {id e : Nat} {r : Ty} {xs : List r.den} {o : Option (List Nat)} (h : k.h id = some (.arr e r xs (dpO o))) (c : Nat) : k.own id c ↔ c ∈ QJ k id := by
 unfold QJ
 rw [h]
 cases o with
 | none => rw [wJ h]; simp [dpO]
 | some ns => rw [dZ h]; simp [dpO]
theorem Xq {k : K} {id e : Nat} {r : Ty} {xs : List r.den} {o : Option (List Nat)} (h : k.h id = some (.arr e r xs (dpO o))) : QJ k id = (ownB (k.ν id)).toList ++ nbK k id o := by
 cases o with
 | none => unfold QJ; rw [h]; simp [dpO, nbK]
 | some ns => unfold QJ; rw [h]; rfl
theorem vP {F : Fx} {k : K} (hk : aI F k) {H : List (Nat × Ob)} (hS : k.h = lkH H) : ∀ {t : Ty} {cs rest : List C} {x : t.den} {es es' : List (Nat × Option (List Nat))} {ids : List Nat}, mV H t cs es = some (x, rest, es', ids) → ∀ {vs : List Value}, bK F k cs vs →
 ∃ u v, vs = u ++ v ∧ bK F k rest v ∧ (∀ id ∈ ids, ∃ e r xs o, k.h id = some (.arr e r xs (dpO o)) ∧ bP id = false) ∧ iY k.w (k.ok F) 0 t x es u es' (qw k ids)
 | .pair a b, cs, rest, x, es, es', ids, h, vs, hv => by
  simp only [mV] at h
  split at h
  ·rename_i p hp
   split at h
   ·rename_i q hq
    simp only [Option.some.injEq, Prod.mk.injEq] at h
    obtain ⟨rfl, rfl, rfl, rfl⟩ := h
    obtain ⟨u1, v1, rfl, h1, h2, h3⟩ := vP hk hS (x := p.1) (rest := p.2.1) (es' := p.2.2.1) (ids := p.2.2.2) hp hv
    obtain ⟨u2, v2, rfl, h4, h5, h6⟩ := vP hk hS (x := q.1) (rest := q.2.1) (es' := q.2.2.1) (ids := q.2.2.2) hq h1
    refine ⟨u1 ++ u2, v2, by simp, h4, fun id hi => ?_, u1, u2, _, _, _, rfl, h3, h6, by simp [qw]⟩
    rcases List.mem_append.1 hi with hi | hi
    ·exact h2 id hi
    ·exact h5 id hi
   ·cases h
  ·cases h
 | .slice r, cs, rest, x, es, es', ids, h, vs, hv => by
  cases cs with
  | nil => simp [mV] at h
  | cons c cs =>
   obtain ⟨v, vs', rfl, h1, h2⟩ := hv
   cases es with
   | nil => cases c <;> simp [mV] at h
   | cons e es =>
    cases c with
    | emp =>
     simp only [mV, Option.some.injEq, Prod.mk.injEq] at h
     obtain ⟨rfl, rfl, rfl, rfl⟩ := h
     have h1 : v = .slice none 0 0 := h1
     subst h1
     exact ⟨[_], vs', rfl, h2, fun _ h => by simp at h, e, _, [], [], rfl, rfl, .mt none, (by cases e.2 <;> exact ⟨rfl, rfl⟩), Nat.zero_le _, rfl⟩
    | mt =>
     simp only [mV, Option.some.injEq, Prod.mk.injEq] at h
     obtain ⟨rfl, rfl, rfl, rfl⟩ := h
     obtain ⟨a, rfl⟩ := h1
     exact ⟨[_], vs', rfl, h2, fun _ h => by simp at h, e, _, [], [], rfl, rfl, .mt a, (by cases e.2 <;> exact ⟨rfl, rfl⟩), Nat.zero_le _, by rw [gB]; rfl⟩
    | arr id =>
     simp only [mV] at h
     rw [← hS] at h
     split at h
     ·rename_i e' r' xs d hid
      split at h
      ·rename_i y hy
       cases hb : (Nat.beq e' e.1 && (SY d e.2 && !bP id)) with
       | false => rw [hb] at h; cases h
       | true =>
        rw [hb] at h
        simp only [cond_true, Option.some.injEq, Prod.mk.injEq] at h
        obtain ⟨rfl, rfl, rfl, rfl⟩ := h
        obtain ⟨he, rfl⟩ := dD hy
        injection he with he
        subst he
        simp only [Bool.and_eq_true, Bool.not_eq_true'] at hb
        obtain ⟨hb, hd, hp⟩ := hb
        obtain rfl := Nat.eq_of_beq_eq_true hb
        obtain rfl := Eb hd
        obtain ⟨_, h1⟩ := h1
        rw [hid] at h1
        have h1 : v = k.ν id := h1
        obtain ⟨us, bl, h3, h4, h5, _, _, h6⟩ := Qj hk hid
        refine ⟨[v], vs', rfl, h2, fun i hi => ?_, e, v, us, bl, rfl, rfl, by rw [h1]; exact h3, h4, h5, ?_⟩
        ·simp at hi
         subst hi
         exact ⟨_, _, _, _, hid, hp⟩
        ·have hbl : bl = nbK k id e.2 := h6
         rw [h1, hbl]
         simp only [qw, List.flatMap_cons, List.flatMap_nil, List.append_nil]
         exact Xq hid
      ·cases h
     ·cases h
    | _ => simp [mV] at h
 | .bool, cs, rest, x, es, es', ids, h, vs, hv => by
  cases cs with
  | nil => simp [mV] at h
  | cons c cs =>
   obtain ⟨v, vs', rfl, h1, h2⟩ := hv
   cases c with
   | v t' y =>
    simp only [mV] at h
    split at h
    ·rename_i z hz
     simp only [Option.some.injEq, Prod.mk.injEq] at h
     obtain ⟨rfl, rfl, rfl, rfl⟩ := h
     obtain ⟨he, rfl⟩ := dD hz
     subst he
     exact ⟨[v], vs', rfl, h2, fun _ h => by simp at h, rfl, rfl, h1⟩
    ·cases h
   | _ => simp [mV] at h
 | .int kk, cs, rest, x, es, es', ids, h, vs, hv => by
  cases cs with
  | nil => simp [mV] at h
  | cons c cs =>
   obtain ⟨v, vs', rfl, h1, h2⟩ := hv
   cases c with
   | v t' y =>
    simp only [mV] at h
    split at h
    ·rename_i z hz
     simp only [Option.some.injEq, Prod.mk.injEq] at h
     obtain ⟨rfl, rfl, rfl, rfl⟩ := h
     obtain ⟨he, rfl⟩ := dD hz
     subst he
     exact ⟨[v], vs', rfl, h2, fun _ h => by simp at h, rfl, rfl, h1⟩
    ·cases h
   | _ => simp [mV] at h
 | .str, cs, rest, x, es, es', ids, h, vs, hv => by
  cases cs with
  | nil => simp [mV] at h
  | cons c cs =>
   obtain ⟨v, vs', rfl, h1, h2⟩ := hv
   cases c with
   | v t' y =>
    simp only [mV] at h
    split at h
    ·rename_i z hz
     simp only [Option.some.injEq, Prod.mk.injEq] at h
     obtain ⟨rfl, rfl, rfl, rfl⟩ := h
     obtain ⟨he, rfl⟩ := dD hz
     subst he
     exact ⟨[v], vs', rfl, h2, fun _ h => by simp at h, rfl, rfl, h1⟩
    ·cases h
   | _ => simp [mV] at h
end Go.MC

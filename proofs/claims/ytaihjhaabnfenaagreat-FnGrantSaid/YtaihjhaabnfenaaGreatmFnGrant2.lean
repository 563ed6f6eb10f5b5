/- Part 2 of the texts of the claim FnGrant: an interpreter of the translated code over data, proved sound; the contracts of the functions; the same in plain words. -/
import Derived.Test.YtaihjhaabnfenaaGreatmFnGrant1
import Derived.SizedLaws
import Derived.OpenShut
import Derived.Carry
import Derived.Sort.OwnSorted
import Derived.Lib.SlicesCompact
import Derived.Test.YtaihjhaabnfenaaGreatChecked
import Derived.Shelf.Small.Bits
import Derived.Shelf.Strconv.Itoa0
import Derived.Shelf.Sort.Plain
import Derived.Shelf.Slices.Turned
import Derived.Shelf.Slices.Equal
import Derived.Ground.Names2Prog
import Derived.Shelf.Slices.Clone
import Derived.Shelf.Slices.CompactS
import Derived.Shelf.Slices.Cells
import Derived.Shelf.Slices.In.SortNone
import Derived.Shelf.Slices.In.SortNone2
import Derived.Shelf.Slices.Empties2
import Derived.Ground.SlgnProg
import Derived.Shelf.SlicesE.Clone
import Derived.Test.YtaihjhaabnfenaaGreatProg
import Derived.WalkKit
import Derived.Deep.LoopGhost
import Derived.Deep.RegionLaw
import Derived.Lib.Walk
import Derived.Lib.SliceRun
import Derived.Laws.IdiomCopy
import Derived.Shelf.Abstract
set_option linter.unusedVariables false
set_option linter.unusedSimpArgs false
namespace Go.MC
open Go.RowKit
theorem lkH_none {l : List (Nat × Ob)} {i : Nat} (h : i ∉ l.map (·.1)) : lkH l i = none := by
  cases ho : lkH l i with
  | none => rfl
  | some o => exact absurd (List.mem_map.2 ⟨_, lkH_some ho, rfl⟩) h
theorem flatMap_inj {α : Type} {f : α → List Nat} : ∀ {l : List α}, (l.flatMap f).Nodup → ∀ {x y : α} {c : Nat}, x ∈ l → y ∈ l → c ∈ f x → c ∈ f y → x = y
  | [], _, x, y, c, hx, _, _, _ => by simp at hx
  | z :: l, hn, x, y, c, hx, hy, h1, h2 => by
    rw [List.flatMap_cons] at hn
    obtain ⟨_, hn2, hn3⟩ := List.nodup_append.1 hn
    rcases List.mem_cons.1 hx with hx' | hx'
    · rcases List.mem_cons.1 hy with hy' | hy'
      · rw [hx', hy']
      · rw [hx'] at h1
        exact absurd rfl (hn3 c h1 c (List.mem_flatMap.2 ⟨y, hy', h2⟩))
    · rcases List.mem_cons.1 hy with hy' | hy'
      · rw [hy'] at h2
        exact absurd rfl (hn3 c h2 c (List.mem_flatMap.2 ⟨x, hx', h1⟩))
      · exact flatMap_inj hn2 hx' hy' h1 h2
theorem nodup_of_flatMap {α : Type} {f : α → List Nat} : ∀ {l : List α}, (l.flatMap f).Nodup → ∀ {x : α}, x ∈ l → (f x).Nodup
  | [], _, x, hx => by simp at hx
  | z :: l, hn, x, hx => by
    rw [List.flatMap_cons] at hn
    obtain ⟨hn1, hn2, _⟩ := List.nodup_append.1 hn
    rcases List.mem_cons.1 hx with hx' | hx'
    · rw [hx']; exact hn1
    · exact nodup_of_flatMap hn2 hx'
theorem objR_of {F : Fx} {k : K} {id e : Nat} {r : Ty} {xs : List r.den} {us : List Value} {o : Option (List Nat)} {bl : List Nat} (h1 : OwnsR k.w (F.bs id) e r.sz (k.ν id) xs.length us) (h2 : RowsO k.w (k.ok F) (F.bs id) r o xs us bl) (h3 : xs.length ≤ lim) (h4 : k.nb id = bl) (h5 : ((ownB (k.ν id)).toList ++ bl).Nodup) : objR F k id (.arr e r xs (dpO o)) := by
  cases o with
  | none => exact ⟨us, h1, h2.1, h3⟩
  | some ns => exact ⟨us, us, h1, by rw [h4]; exact h2, h3, by rw [h4]; exact h5, rfl⟩
theorem own_sub {k : K} {id e : Nat} {r : Ty} {xs : List r.den} {o : Option (List Nat)} (h : k.h id = some (.arr e r xs (dpO o))) {c : Nat} (hc : k.own id c) : c ∈ (ownB (k.ν id)).toList ++ k.nb id := by
  cases o with
  | none => exact List.mem_append.2 (.inl (by simpa using (own_no h).1 hc))
  | some ns => simpa using (own_yes h).1 hc
theorem find_newO : ∀ {news : List NewO}, (news.map NewO.n).Nodup → ∀ {x : NewO}, x ∈ news → news.find? (fun y => Nat.beq y.n x.n) = some x
  | [], _, x, h => by simp at h
  | z :: news, hn, x, h => by
    simp only [List.map_cons, List.nodup_cons] at hn
    rw [List.find?_cons]
    rcases List.mem_cons.1 h with rfl | h
    · simp [Nat.beq_refl]
    · have : Nat.beq z.n x.n = false := by
        cases hb : Nat.beq z.n x.n with
        | false => rfl
        | true =>
          have := Nat.eq_of_beq_eq_true hb
          exact absurd (List.mem_map.2 ⟨x, h, this.symm⟩) hn.1
      rw [this]
      exact find_newO hn.2 h
theorem call_core {F : Fx} {k : K} (hk : HeapOK F k) {okc : Nat → Prop} (hsub : ∀ c, okc c → k.ok F c) {bxs : List (Nat × Hd)} (hbx : ∀ p ∈ bxs, HdIn k p) (hbn : (bxs.map (·.1)).Nodup) {w' : World} {os bs' : List Nat} {b : List (Nat × Ob)} {nbn : Nat → List Nat} {news : List NewO}
    (hsz : k.w.heap.size ≤ w'.heap.size) (hfr : ∀ c, c < k.w.heap.size → c ∉ bxs.flatMap (bsK k) → w'.heap[c]? = k.w.heap[c]?) (hos : w'.os = k.w.os) (htp : w'.tape = k.w.tape) (hou : w'.output = k.w.output)
    (hon : (os ++ bs').Nodup) (hor : ∀ c ∈ os, c ∈ bxs.flatMap (bsK k) ∨ (k.w.heap.size ≤ c ∧ c < w'.heap.size)) (hbr : ∀ c ∈ bs', c ∈ bxs.flatMap (bsK k) ∨ (k.w.heap.size ≤ c ∧ c < w'.heap.size))
    (hbk : b.map (·.1) = bxs.map (·.1)) (hb : ∀ p ∈ b, BackR w' (fun c => okc c ∨ ((k.w.heap.size ≤ c ∨ c ∈ bxs.flatMap (bsK k)) ∧ c < w'.heap.size ∧ c ∉ os ++ bs')) k nbn bxs p) (hbs : bs' = b.flatMap (backB k nbn))
    (hfresh : ∀ x ∈ news, k.h x.n = none) (hnn : (news.map NewO.n).Nodup) (hnew : ∀ x ∈ news, NewR w' (fun c => okc c ∨ ((k.w.heap.size ≤ c ∨ c ∈ bxs.flatMap (bsK k)) ∧ c < w'.heap.size ∧ c ∉ os ++ bs')) 0 x) (hperm : os.Perm (blocksOf news)) :
    ∃ k', k'.w = w' ∧ k'.h = (k.put (b ++ news.map fun x => (x.n, x.ob))).h ∧ HeapOK F k' ∧ Le F k k' ∧ (∀ c, (okc c ∨ ((k.w.heap.size ≤ c ∨ c ∈ bxs.flatMap (bsK k)) ∧ c < w'.heap.size ∧ c ∉ os ++ bs')) → k'.ok F c) ∧ NewsIn k' news := by
  let k' : K := ⟨w', (k.put (b ++ news.map fun x => (x.n, x.ob))).h, k.μ, fun i => match news.find? (fun y => Nat.beq y.n i) with | some x => x.v | none => k.ν i,
    fun i => match news.find? (fun y => Nat.beq y.n i) with | some x => x.nb | none => if i ∈ b.map (·.1) then nbn i else k.nb i⟩
  have hbmem : ∀ p ∈ b, ∃ hd, (p.1, hd) ∈ bxs ∧ HdIn k (p.1, hd) := by
    intro p hp
    have : p.1 ∈ bxs.map (·.1) := by rw [← hbk]; exact List.mem_map.2 ⟨p, hp, rfl⟩
    obtain ⟨q, hq, h1⟩ := List.mem_map.1 this
    exact ⟨q.2, by rw [← h1]; exact hq, by rw [← h1]; exact hbx q hq⟩
  have hbsome : ∀ p ∈ bxs, k.h p.1 ≠ none := by
    intro p hp hn
    have := hbx p hp
    unfold HdIn at this
    split at this
    · obtain ⟨cs, h⟩ := this; rw [hn] at h; cases h
    · obtain ⟨xs, h⟩ := this; rw [hn] at h; cases h
    · obtain ⟨xs, h⟩ := this; rw [hn] at h; cases h
  have hLk : ((b ++ news.map fun x => (x.n, x.ob)).map (·.1)).Nodup := by
    rw [List.map_append, hbk, List.map_map]
    refine List.nodup_append.2 ⟨hbn, hnn, fun i h1 j h2 hij => ?_⟩
    subst hij
    obtain ⟨q, hq, rfl⟩ := List.mem_map.1 h1
    obtain ⟨x, hx, h3⟩ := List.mem_map.1 h2
    have := hfresh x hx
    rw [show x.n = q.1 from h3] at this
    exact hbsome q hq this
  have hhb : ∀ p ∈ b, k'.h p.1 = some p.2 := fun p hp => by
    show (lkH _ p.1).or _ = _
    rw [lkH_nodup hLk (i := p.1) (o := p.2) (List.mem_append.2 (.inl hp))]
    rfl
  have hhn : ∀ x ∈ news, k'.h x.n = some x.ob := fun x hx => by
    show (lkH _ x.n).or _ = _
    rw [lkH_nodup hLk (i := x.n) (o := x.ob) (List.mem_append.2 (.inr (List.mem_map.2 ⟨x, hx, rfl⟩)))]
    rfl
  have hho : ∀ i, i ∉ bxs.map (·.1) → i ∉ news.map NewO.n → k'.h i = k.h i := fun i h1 h2 => by
    show (lkH _ i).or _ = _
    rw [lkH_none (by
      rw [List.map_append, hbk, List.map_map]
      intro h3
      rcases List.mem_append.1 h3 with h3 | h3
      · exact h1 h3
      · exact h2 h3)]
    rfl
  have hfind : ∀ i, i ∉ news.map NewO.n → news.find? (fun y => Nat.beq y.n i) = none := by
    intro i hi
    cases hfd : news.find? (fun y => Nat.beq y.n i) with
    | none => rfl
    | some x =>
      have h1 := List.mem_of_find?_eq_some hfd
      have h2 : x.n = i := Nat.eq_of_beq_eq_true (by simpa using List.find?_some hfd)
      exact absurd (List.mem_map.2 ⟨x, h1, h2⟩) hi
  have hνn : ∀ x ∈ news, k'.ν x.n = x.v ∧ k'.nb x.n = x.nb := by
    intro x hx
    show (match news.find? (fun y => Nat.beq y.n x.n) with | some x => x.v | none => k.ν x.n) = x.v ∧ (match news.find? (fun y => Nat.beq y.n x.n) with | some x => x.nb | none => _) = x.nb
    rw [find_newO hnn hx]
    exact ⟨rfl, rfl⟩
  have hνo : ∀ i, i ∉ news.map NewO.n → k'.ν i = k.ν i := by
    intro i hi
    show (match news.find? (fun y => Nat.beq y.n i) with | some x => x.v | none => k.ν i) = k.ν i
    rw [hfind i hi]
  have hnbo : ∀ i, i ∉ news.map NewO.n → k'.nb i = if i ∈ b.map (·.1) then nbn i else k.nb i := by
    intro i hi
    show (match news.find? (fun y => Nat.beq y.n i) with | some x => x.nb | none => if i ∈ List.map (fun p : Nat × Ob => p.1) b then nbn i else k.nb i) = _
    rw [hfind i hi]
  have hbnew : ∀ i, i ∈ bxs.map (·.1) → i ∉ news.map NewO.n := by
    intro i h1 h2
    obtain ⟨q, hq, rfl⟩ := List.mem_map.1 h1
    obtain ⟨x, hx, h3⟩ := List.mem_map.1 h2
    have := hfresh x hx
    rw [h3] at this
    exact hbsome q hq this
  have hbin : ∀ p ∈ b, p.1 ∈ bxs.map (·.1) := fun p hp => by rw [← hbk]; exact List.mem_map.2 ⟨p, hp, rfl⟩
  have hbν : ∀ p ∈ b, k'.ν p.1 = k.ν p.1 := fun p hp => hνo _ (hbnew _ (hbin p hp))
  have hbnb : ∀ p ∈ b, k'.nb p.1 = nbn p.1 := fun p hp => by rw [hnbo _ (hbnew _ (hbin p hp)), if_pos (List.mem_map.2 ⟨p, hp, rfl⟩)]
  -- what is owned now
  have hownb : ∀ p ∈ b, ∀ c, k'.own p.1 c → c ∈ backB k nbn p := by
    intro p hp c h
    rcases hb p hp with ⟨t, x, cs, T, h1, _⟩ | ⟨h1, _⟩ | ⟨e, r, xs, us, o, h1, _⟩
    · unfold K.own at h
      rw [hhb p hp, h1] at h
      unfold backB
      rw [h1]
      have h : k.μ p.1 = c := h
      simp [h]
    · unfold K.own at h
      rw [hhb p hp, h1] at h
      exact h.elim
    · have := own_sub (by rw [hhb p hp, h1]) h
      rw [hbν p hp, hbnb p hp] at this
      unfold backB
      rw [h1]
      exact this
  have hownn : ∀ x ∈ news, ∀ c, k'.own x.n c → c ∈ x.bl := by
    intro x hx c h
    obtain ⟨e, r, xs, us, o, h1, _⟩ := hnew x hx
    have := own_sub (by rw [hhn x hx, h1]) h
    rw [(hνn x hx).1, (hνn x hx).2] at this
    exact this
  have hnews : (blocksOf news).Nodup := (hperm.nodup_iff).1 (List.nodup_append.1 hon).1
  have hback : (b.flatMap (backB k nbn)).Nodup := by rw [← hbs]; exact (List.nodup_append.1 hon).2.1
  have hcross : ∀ x ∈ news, ∀ c ∈ x.bl, ∀ p ∈ b, c ∉ backB k nbn p := by
    intro x hx c h1 p hp h2
    have h3 : c ∈ os := (hperm.mem_iff).2 (List.mem_flatMap.2 ⟨x, hx, h1⟩)
    have h4 : c ∈ bs' := by rw [hbs]; exact List.mem_flatMap.2 ⟨p, hp, h2⟩
    exact (List.nodup_append.1 hon).2.2 c h3 c h4 rfl
  have hTcase : ∀ i, (i ∈ bxs.map (·.1) ∨ i ∈ news.map NewO.n) → (∃ p ∈ b, p.1 = i) ∨ ∃ x ∈ news, x.n = i := by
    rintro i (h | h)
    · rw [← hbk] at h
      obtain ⟨p, hp, h1⟩ := List.mem_map.1 h
      exact .inl ⟨p, hp, h1⟩
    · obtain ⟨x, hx, h1⟩ := List.mem_map.1 h
      exact .inr ⟨x, hx, h1⟩
  have hbsown : ∀ c ∈ bxs.flatMap (bsK k), ∃ p ∈ bxs, k.own p.1 c := by
    intro c hc
    obtain ⟨p, hp, h1⟩ := List.mem_flatMap.1 hc
    exact ⟨p, hp, (own_bsK (hbx p hp) c).2 h1⟩
  have hownT : ∀ i c, (i ∈ bxs.map (·.1) ∨ i ∈ news.map NewO.n) → k'.own i c → (∃ p ∈ bxs, k.own p.1 c) ∨ (k.w.heap.size ≤ c ∧ c < w'.heap.size) := by
    intro i c hi h
    rcases hTcase i hi with ⟨p, hp, rfl⟩ | ⟨x, hx, rfl⟩
    · have h1 : c ∈ bs' := by rw [hbs]; exact List.mem_flatMap.2 ⟨p, hp, hownb p hp c h⟩
      exact (hbr c h1).imp (hbsown c) (fun h => h)
    · exact (hor c ((hperm.mem_iff).2 (List.mem_flatMap.2 ⟨x, hx, hownn x hx c h⟩))).imp (hbsown c) (fun h => h)
  have hoko : ∀ c, (okc c ∨ ((k.w.heap.size ≤ c ∨ c ∈ bxs.flatMap (bsK k)) ∧ c < w'.heap.size ∧ c ∉ os ++ bs')) → k'.ok F c := by
    rintro c (hc | ⟨h1, h2, h3⟩)
    · rcases hsub c hc with hc' | ⟨h1, h2, h3⟩
      · exact .inl hc'
      · refine .inr ⟨h1, Nat.lt_of_lt_of_le h2 hsz, fun i hi => ?_⟩
        by_cases hT : i ∈ bxs.map (·.1) ∨ i ∈ news.map NewO.n
        · rcases hownT i c hT hi with ⟨p, _, h4⟩ | ⟨h4, _⟩
          · exact h3 _ h4
          · omega
        · refine h3 i ?_
          have hn1 : i ∉ bxs.map (·.1) := fun h => hT (.inl h)
          have hn2 : i ∉ news.map NewO.n := fun h => hT (.inr h)
          have e1 := hho i hn1 hn2
          have e2 := hνo i hn2
          have e3 := hnbo i hn2
          rw [if_neg (by rw [hbk]; exact hn1)] at e3
          unfold K.own at hi ⊢
          rw [e1, e2, e3] at hi
          exact hi
    · refine .inr ⟨h1.elim (fun h => .inl (Nat.le_trans hk.size h)) (fun h => by
          obtain ⟨p, _, h4⟩ := hbsown c h
          exact (hk.rng _ _ h4).1), h2, fun i hi => ?_⟩
      by_cases hT : i ∈ bxs.map (·.1) ∨ i ∈ news.map NewO.n
      · rcases hTcase i hT with ⟨p, hp, rfl⟩ | ⟨x, hx, rfl⟩
        · exact h3 (List.mem_append.2 (.inr (by rw [hbs]; exact List.mem_flatMap.2 ⟨p, hp, hownb p hp c hi⟩)))
        · exact h3 (List.mem_append.2 (.inl ((hperm.mem_iff).2 (List.mem_flatMap.2 ⟨x, hx, hownn x hx c hi⟩))))
      · have hn1 : i ∉ bxs.map (·.1) := fun h => hT (.inl h)
        have hn2 : i ∉ news.map NewO.n := fun h => hT (.inr h)
        have e1 := hho i hn1 hn2
        have e2 := hνo i hn2
        have e3 := hnbo i hn2
        rw [if_neg (by rw [hbk]; exact hn1)] at e3
        have : k.own i c := by
          unfold K.own at hi ⊢
          rw [e1, e2, e3] at hi
          exact hi
        rcases h1 with h1 | h1
        · have := (hk.rng i c this).2
          omega
        · obtain ⟨p, hp, h4⟩ := hbsown c h1
          exact hn1 (hk.inj i p.1 c this h4 ▸ List.mem_map.2 ⟨p, hp, rfl⟩)
  have main := reownB hk (k' := k') (fun i => i ∈ bxs.map (·.1) ∨ i ∈ news.map NewO.n) hsz (fun c hc hn => hfr c hc fun hm => ?_) hos htp hou (fun i hi => ?_) (fun i hi => ?_) (fun i c hi h => ?_) (fun i j c hi hj h1 h2 => ?_) (fun hle i ob hi ho => ?_)
  · exact ⟨k', rfl, rfl, main.1, main.2, hoko, fun x hx => ⟨hhn x hx, (hνn x hx).1⟩⟩
  · obtain ⟨p, hp, h1⟩ := hbsown c hm
    exact hn p.1 (.inl (List.mem_map.2 ⟨p, hp, rfl⟩)) h1
  · have hn1 : i ∉ bxs.map (·.1) := fun h => hi (.inl h)
    have hn2 : i ∉ news.map NewO.n := fun h => hi (.inr h)
    refine ⟨hho i hn1 hn2, rfl, hνo i hn2, ?_⟩
    rw [hnbo i hn2, if_neg (by rw [hbk]; exact hn1)]
  · rcases hTcase i hi with ⟨p, hp, rfl⟩ | ⟨x, hx, rfl⟩
    · rcases hb p hp with ⟨t, x, cs, T, h1, h2, _⟩ | ⟨h1, e, r, o, h2⟩ | ⟨e, r, xs, us, o, h1, h2, h3, _⟩
      · obtain ⟨cs0, h4⟩ := hbx _ h2
        exact .inr (.inr ⟨cs0, unpack t x, h4, by rw [hhb p hp, h1], rfl, hbν p hp⟩)
      · obtain ⟨xs0, h4⟩ := hbx _ h2
        exact .inr (.inl ⟨e, r, xs0, _, h4, hbν p hp, .inr (.inr (by rw [hhb p hp, h1]))⟩)
      · obtain ⟨xs0, h4⟩ := hbx _ h2
        refine .inr (.inl ⟨e, r, xs0, _, h4, hbν p hp, .inl ⟨xs, _, by rw [hhb p hp, h1], ?_⟩⟩)
        obtain ⟨us0, h5, _⟩ := own_row hk h4
        obtain ⟨a1, c1, e1⟩ := h5.form
        obtain ⟨a2, c2, e2⟩ := h3.form
        rw [e1] at e2
        injection e2 with _ e2 _
        exact e2.symm
    · exact .inl (hfresh x hx)
  · rcases hownT i c hi h with ⟨p, hp, h1⟩ | h1
    · exact .inl ⟨p.1, .inl (List.mem_map.2 ⟨p, hp, rfl⟩), h1⟩
    · exact .inr h1
  · rcases hTcase i hi with ⟨p, hp, rfl⟩ | ⟨x, hx, rfl⟩
    · rcases hTcase j hj with ⟨q, hq, rfl⟩ | ⟨y, hy, rfl⟩
      · rw [flatMap_inj hback hp hq (hownb p hp c h1) (hownb q hq c h2)]
      · exact absurd (hownb p hp c h1) (hcross y hy c (hownn y hy c h2) p hp)
    · rcases hTcase j hj with ⟨q, hq, rfl⟩ | ⟨y, hy, rfl⟩
      · exact absurd (hownb q hq c h2) (hcross x hx c (hownn x hx c h1) q hq)
      · rw [flatMap_inj hnews hx hy (hownn x hx c h1) (hownn y hy c h2)]
  · rcases hTcase i hi with ⟨p, hp, rfl⟩ | ⟨x, hx, rfl⟩
    · rw [hhb p hp] at ho
      have ho := Option.some.inj ho
      subst ho
      have hpn : (backB k nbn p).Nodup := nodup_of_flatMap hback hp
      rcases hb p hp with ⟨t, x, cs, T, h1, h2, h3, h4⟩ | ⟨h1, _⟩ | ⟨e, r, xs, us, o, h1, h2, h3, h4, h5⟩
      · rw [h1]
        exact ⟨cs, T, h3, unpack_rel (h4.mono hoko (fun _ _ _ => rfl))⟩
      · rw [h1]
        trivial
      · rw [h1]
        obtain ⟨xs0, h6⟩ := hbx _ h2
        dsimp only at h6
        have hbb : backB k nbn p = (ownB (k.ν p.1)).toList ++ nbn p.1 := by unfold backB; rw [h1]
        refine objR_of (us := us) (bl := nbn p.1) ?_ ?_ h5 (hbnb p hp) ?_
        · rw [hbν p hp]
          exact h3
        · exact h4.mono hoko
        · rw [hbν p hp, ← hbb]
          exact hpn
    · rw [hhn x hx] at ho
      have ho := Option.some.inj ho
      subst ho
      obtain ⟨e, r, xs, us, o, h1, h2, h3, h4⟩ := hnew x hx
      rw [h1]
      refine objR_of (us := us) (bl := x.nb) ?_ ?_ h4 (hνn x hx).2 ?_
      · rw [(hνn x hx).1]
        exact h2
      · exact h3.mono hoko
      · rw [(hνn x hx).1]
        exact nodup_of_flatMap hnews hx
end Go.MC

set_option linter.unusedVariables false
set_option linter.unusedSimpArgs false
namespace Go.MC
open Go.RowKit
theorem freshAll_sound {S : St} : ∀ {l : List (Nat × Ob)} {u : Unit} {R : List Nat}, Tells (freshAll l) S u R → ∀ p ∈ l, lkH S.H p.1 = none
  | [], _, _, _, p, hp => by simp at hp
  | q :: l, u, R, h, p, hp => by
    unfold freshAll at h
    obtain ⟨o, _, _, ho, h, _⟩ := tells_bind (Good.rdO _) (fun _ => Good.all _) h
    obtain ⟨_, _, _, hg, h, _⟩ := tells_bind (Good.guard _) (fun _ => Good.all _) h
    rcases List.mem_cons.1 hp with rfl | hp
    · obtain ⟨rfl, _⟩ := tells_rdO ho
      have := (tells_guard hg).1
      cases hh : lkH S.H p.1 with
      | none => rfl
      | some o => rw [hh] at this; cases this
    · exact freshAll_sound h p hp
section mem
variable {P : Program}
theorem tup_rel {F : Fx} {k : K} {cs : List V1} {vs : List Value} (h : relVs F k cs vs) : relA F k (tupV cs) (tupValue vs) := by
  cases cs with
  | nil => simp only [relVs] at h; subst h; exact ⟨[], rfl, rfl⟩
  | cons v cs =>
    obtain ⟨x, xs', rfl, h3, h4⟩ := h
    cases cs with
    | nil => simp only [relVs] at h4; subst h4; exact h3
    | cons v' cs =>
      obtain ⟨x', xs2, rfl, h5, h6⟩ := h4
      exact ⟨_, rfl, x, _, rfl, h3, x', _, rfl, h5, h6⟩
theorem callOK_of {Φ : Nat → Option Summ} (hΦ : ∀ g vs s, phiK Φ g vs = some s → Contract P g s) : CallOK P Φ := by
  intro F k S g s dst avs args U R hk hS hs ha h
  obtain ⟨hcall, hcon⟩ := hΦ g avs s hs
  unfold summStep at h
  obtain ⟨favs, _, _, hfa, h, _⟩ := tells_bind (Good.ofOpt _) (fun _ => Good.all _) h
  obtain ⟨fargs, hfv, ha⟩ := flatA_sound (tells_ofOpt hfa).1 ha
  obtain ⟨z, _, _, hz, h, _⟩ := tells_bind (good_args1 _ _ _) (fun _ => Good.all _) h
  obtain ⟨_, _, _, hpre, h, _⟩ := tells_bind (Good.guard _) (fun _ => Good.all _) h
  obtain ⟨_, _, _, hfl, h, _⟩ := tells_bind (Good.guard _) (fun _ => Good.all _) h
  obtain ⟨r, _, _, hr, h, _⟩ := tells_bind (Good.ofOpt _) (fun _ => Good.all _) h
  obtain ⟨_, _, _, hnd, h, _⟩ := tells_bind (Good.guard _) (fun _ => Good.all _) h
  obtain ⟨b, _, _, hb, h, _⟩ := tells_bind (Good.ofOpt _) (fun _ => Good.all _) h
  obtain ⟨_, _, _, hfresh, h, _⟩ := tells_bind (good_freshAll _) (fun _ => Good.all _) h
  obtain ⟨rfl, _⟩ := tells_pure h
  obtain ⟨ds, bxs, obs⟩ := z
  obtain ⟨vs1, nobs, rest, id'⟩ := r
  have hpre := (tells_guard hpre).1
  have hfl := (tells_guard hfl).1
  have hnd := nodupN'_nodup (tells_guard hnd).1
  have hr := (tells_ofOpt hr).1
  have hb := (tells_ofOpt hb).1
  have hfresh := freshAll_sound hfresh
  dsimp only at hpre hfl hnd hr hb hfresh
  simp only [Bool.and_eq_true] at hfl
  obtain ⟨⟨hfl, hbn⟩, htwo⟩ := hfl
  have hbn := nodupN'_nodup hbn
  obtain ⟨l, hT, hF, hZ, hargs, hbx, hbxo⟩ := args1_sound hk hS hz ha
  obtain ⟨hk1, hle1, hok1⟩ := freeze hk hF
  have htwo' : ∀ p ∈ bxs, p.1 ∉ obs.map (·.1) := by
    intro p hp hm
    obtain ⟨q, hq, h1⟩ := List.mem_map.1 hm
    have h2 := List.all_eq_true.1 htwo p hp
    have h3 := List.all_eq_true.1 h2 q hq
    rw [h1, Nat.beq_refl] at h3
    cases h3
  have hh1 : ∀ p ∈ bxs, (k.put obs).h p.1 = k.h p.1 := fun p hp => by
    show (lkH obs p.1).or (k.h p.1) = _
    rw [lkH_none (htwo' p hp)]
    rfl
  have hbx1 : ∀ p ∈ bxs, HdIn (k.put obs) p := by
    intro p hp
    have h1 := hbx p hp
    unfold HdIn at h1 ⊢
    rw [hh1 p hp]
    exact h1
  have hokT_lt : ∀ c, k.okT F l c → c < k.w.heap.size := by
    rintro c (hc | ⟨id, _, ho⟩)
    · exact K.ok_lt hk hc
    · exact (hk.rng id c ho).2
  have hbs : (bxs.flatMap (bsK k)).Nodup := by
    have : ∀ {bx : List (Nat × Hd)}, (∀ p ∈ bx, HdIn k p) → (bx.map (·.1)).Nodup → (bx.flatMap (bsK k)).Nodup := by
      intro bx
      induction bx with
      | nil => exact fun _ _ => List.nodup_nil
      | cons p bx ih =>
        intro h1 h2
        simp only [List.map_cons, List.nodup_cons] at h2
        rw [List.flatMap_cons]
        refine List.nodup_append.2 ⟨bsK_nodup hk (h1 p (by simp)), ih (fun q hq => h1 q (by simp [hq])) h2.2, fun c hc c' hc' hcc => ?_⟩
        subst hcc
        obtain ⟨q, hq, h3⟩ := List.mem_flatMap.1 hc'
        have h4 := (own_bsK (h1 p (by simp)) c).2 hc
        have h5 := (own_bsK (h1 q (by simp [hq])) c).2 h3
        exact h2.1 (List.mem_map.2 ⟨q, hq, hk.inj q.1 p.1 _ h5 h4⟩)
    exact this hbx hbn
  have hbr : ∀ c ∈ bxs.flatMap (bsK k), c < k.w.heap.size ∧ ¬ k.okT F l c := by
    intro c hc
    obtain ⟨p, hp, h0⟩ := List.mem_flatMap.1 hc
    have h1 := (own_bsK (hbx p hp) c).2 h0
    refine ⟨(hk.rng _ _ h1).2, ?_⟩
    rintro (h2 | ⟨id, hi, h2⟩)
    · exact K.ok_own hk h2 _ h1
    · obtain rfl := hk.inj id p.1 _ h2 h1
      cases hfz : s.fz with
      | true => exact htwo' p hp (hZ hfz _ hi)
      | false =>
        rw [hfz] at hfl
        simp only [Bool.false_or, Bool.and_eq_true] at hfl
        have : bxs = [] := by simpa using hfl.2
        rw [this] at hp
        simp at hp
  refine .inr (.inr ⟨g, args.toArray, hcall _ _, (hcon k.w (k.okT F l) args fargs ds _ _ hfv hargs hbs hbr hokT_lt hpre).mono ?_⟩)
  rintro e w' ⟨vs, rest', own, bs', rfl, hsz, hfr, hos, htp, hou, hon, hor, hbr', hres, hbox⟩
  obtain ⟨okc, hsub, hres, hboxes⟩ : ∃ okc : Nat → Prop, (∀ c, okc c → (k.put obs).ok F c) ∧ ResRd w' (fun c => okc c ∨ ((k.w.heap.size ≤ c ∨ c ∈ bxs.flatMap (bsK k)) ∧ c < w'.heap.size ∧ c ∉ own ++ bs')) 0 s.rs vs (s.out ds) rest' own ∧
      (rest = rest' → b.map (·.1) = bxs.map (·.1) ∧ ∃ nbn : Nat → List Nat, (∀ p ∈ b, BackR w' (fun c => okc c ∨ ((k.w.heap.size ≤ c ∨ c ∈ bxs.flatMap (bsK k)) ∧ c < w'.heap.size ∧ c ∉ own ++ bs')) k nbn bxs p) ∧ bs' = b.flatMap (backB k nbn)) := by
    cases hfz : s.fz with
    | true => exact ⟨k.okT F l, fun c hc => hok1 c (okT_mono (hZ hfz) hc), hres, fun he => boxes1_sound hb hbxo hbn (he ▸ hbox)⟩
    | false =>
      rw [hfz] at hfl
      simp only [Bool.false_or, Bool.and_eq_true] at hfl
      refine ⟨fun _ => False, fun _ h => h.elim, hres.flat hfl.1, fun he => ?_⟩
      have hb0 : bxs = [] := by simpa using hfl.2
      obtain ⟨h1, nbn, h2, h3⟩ := boxes1_sound hb hbxo hbn (he ▸ hbox)
      have hbe : b = [] := by
        rw [hb0] at h1
        simpa using h1
      subst hbe
      exact ⟨h1, nbn, fun _ h => by simp at h, h3⟩
  obtain ⟨hrest, news, hnobs, hnews, hperm, hrel⟩ := results1_sound (F := F) hr hres
  obtain ⟨hbk, nbn, hbb, hbsq⟩ := hboxes hrest
  have hkn : ∀ x ∈ news, (k.put obs).h x.n = none := by
    intro x hx
    have h1 : k.h x.n = none := by
      rw [hS]
      exact hfresh (x.n, x.ob) (by rw [hnobs]; exact List.mem_map.2 ⟨x, hx, rfl⟩)
    show (lkH obs x.n).or (k.h x.n) = none
    rw [h1]
    cases hh : lkH obs x.n with
    | none => rfl
    | some o =>
      obtain ⟨e', r', xs', dd, h2, _⟩ := hF _ (lkH_some hh)
      rw [show k.h x.n = _ from h2] at h1
      cases h1
  have hnn : (news.map NewO.n).Nodup := by
    rw [hnobs, List.map_map] at hnd
    exact hnd
  obtain ⟨k', hw, hh, hk', hle, hokk, hni⟩ := call_core hk1 (okc := okc) hsub (bxs := bxs) hbx1 hbn (w' := w') (os := own) (bs' := bs') (b := b) (nbn := nbn) (news := news) hsz hfr hos htp hou hon hor hbr' hbk hbb hbsq hkn hnn hnews hperm
  refine ⟨_, k', rfl, hw.symm, ?_, hk', hle1.trans hle, tup_rel (hrel k' hw hokk hni)⟩
  rw [hh, put_put, hnobs, List.append_assoc]
end mem
end Go.MC

set_option linter.unusedVariables false
set_option linter.unusedSimpArgs false
namespace Go.MC
open Go.RowKit
def DsFit : List PS → List Dv → Prop
  | [], ds => ds = []
  | .d t _ :: ps, ds => ∃ x ds', ds = ⟨t, x⟩ :: ds' ∧ Fit t x ∧ DsFit ps ds'
  | .bx t :: ps, ds => ∃ x ds', ds = ⟨t, x⟩ :: ds' ∧ Fit t x ∧ DsFit ps ds'
  | .ow _ r _ :: ps, ds => ∃ x ds', ds = ⟨.slice r, x⟩ :: ds' ∧ Fit (.slice r) x ∧ DsFit ps ds'
  | .mv _ r _ :: ps, ds => ∃ x ds', ds = ⟨.slice r, x⟩ :: ds' ∧ Fit (.slice r) x ∧ DsFit ps ds'
  | .sp _ :: _, _ => False
  | .cl _ _ :: _, _ => False
theorem argsRd_fit {w : World} {ok : Nat → Prop} : ∀ {ps : List PS} {vs : List Value} {ds : List Dv} {hv : List HV} {bs : List Nat}, ArgsRd w ok ps vs ds hv bs → DsFit ps ds
  | [], _, _, _, _, h => h.2.1
  | .d t agg :: ps, _, _, _, _, h => by
    obtain ⟨v, vs', x, ds', cs, rfl, rfl, h1, h2, h3⟩ := h
    exact ⟨x, ds', rfl, h1.fit, argsRd_fit h3⟩
  | .bx t :: ps, _, _, _, _, h => by
    obtain ⟨b, vs', x, ds', cs, T, hv', bs', rfl, rfl, rfl, rfl, h1, h2, h3⟩ := h
    exact ⟨x, ds', rfl, h2.fit, argsRd_fit h3⟩
  | .ow e r o :: ps, _, _, _, _, h => by
    obtain ⟨v, vs', x, ds', us, bl, hv', bs', rfl, rfl, rfl, rfl, h1, h2, h3, h4⟩ := h
    exact ⟨x, ds', rfl, ⟨h3, h2.fit⟩, argsRd_fit h4⟩
  | .mv e r o :: ps, _, _, _, _, h => by
    obtain ⟨v, vs', x, ds', us, bl, hv', bs', rfl, rfl, rfl, rfl, h1, h2, h3, h4⟩ := h
    exact ⟨x, ds', rfl, ⟨h3, h2.fit⟩, argsRd_fit h4⟩
  | .sp _ :: _, _, _, _, _, h => h.elim
  | .cl _ _ :: _, _, _, _, _, h => h.elim
structure Lie where
  n : Nat
  μ : Nat
  ν : Value
  nb : List Nat
def LieOK (k : K) (x : Lie) : Prop := k.μ x.n = x.μ ∧ k.ν x.n = x.ν ∧ k.nb x.n = x.nb
theorem parId_par {i : Nat} (h : Nat.blt i 100000 = true) : isPar (parId i) = true := by
  have h : i + 1 ≤ 100000 := Nat.le_of_ble_eq_true h
  unfold isPar parId
  rw [Nat.ble_eq_true_of_le (by omega), Bool.true_and]
  exact Nat.ble_eq_true_of_le (by omega)
def isBx : Hd → Bool
  | .bx _ => true
  | _ => false
theorem pars_sound {w : World} {ok : Nat → Prop} : ∀ {ps : List PS} {i : Nat} {args : List Value} {ds : List Dv} {hv : List HV} {bs : List Nat} {avs : List AV} {H : List (Nat × Ob)} {bxs : List (Nat × Hd)}, pars i ps ds = some (avs, H, bxs) → ArgsRd w ok ps args ds hv bs →
    ∃ lies : List Lie, H.map (·.1) = bxs.map (·.1) ∧ lies.map Lie.n = bxs.map (·.1) ∧ avs.length = ps.length ∧ (∀ p ∈ bxs, (∃ j, i ≤ j ∧ j < 100000 ∧ p.1 = boxId j ∧ isBx p.2 = true) ∨ (∃ j, i ≤ j ∧ j < 100000 ∧ p.1 = parId j ∧ isMv p.2 = false) ∨ ∃ j, i ≤ j ∧ j < 100000 ∧ p.1 = mvId j ∧ isMv p.2 = true) ∧ (bxs.map (·.1)).Nodup ∧ BxOf ps bxs ∧
      ∀ {F : Fx} {k : K}, k.w = w → (∀ c, ok c → k.ok F c) → (∀ p ∈ H, k.h p.1 = some p.2) → (∀ x ∈ lies, LieOK k x) → bs.Nodup → CallOK.relAs F k avs args ∧ (∀ p ∈ H, objR F k p.1 p.2) ∧ bxs.map (hvK k) = hv ∧ (∀ p ∈ bxs, HdIn k p) ∧ bxs.flatMap (bsK k) = bs
  | [], i, args, ds, hv, bs, avs, H, bxs, hp, h => by
    obtain ⟨rfl, rfl, rfl, rfl⟩ := h
    simp only [pars, Option.some.injEq, Prod.mk.injEq] at hp
    obtain ⟨rfl, rfl, rfl⟩ := hp
    exact ⟨[], rfl, rfl, rfl, fun _ h => by simp at h, List.nodup_nil, rfl, fun _ _ _ _ _ => ⟨rfl, fun _ h => by simp at h, rfl, fun _ h => by simp at h, rfl⟩⟩
  | .d t agg :: ps, i, args, ds, hv, bs, avs, H, bxs, hp, h => by
    obtain ⟨v, vs', x, ds', cs, rfl, rfl, h1, h2, h3⟩ := h
    simp only [pars, castT_self] at hp
    split at hp
    case h_2 => cases hp
    rename_i x' z hx' hz
    cases hx'
    obtain ⟨z1, z2, z3⟩ := z
    simp only [Option.some.injEq, Prod.mk.injEq] at hp
    obtain ⟨rfl, rfl, rfl⟩ := hp
    obtain ⟨lies, g1, g2, g3, g4, g5, g6, g7⟩ := pars_sound hz h3
    refine ⟨lies, g1, g2, by simp [g3], fun p hp => ?_, g5, g6, fun {F k} hw ho hH hl hn => ?_⟩
    · rcases g4 p hp with ⟨j, a, b⟩ | ⟨j, a, b⟩ | ⟨j, a, b⟩
      · exact .inl ⟨j, by omega, b⟩
      · exact .inr (.inl ⟨j, by omega, b⟩)
      · exact .inr (.inr ⟨j, by omega, b⟩)
    · obtain ⟨h4, h5⟩ := g7 (F := F) hw ho hH hl hn
      refine ⟨⟨v, vs', rfl, ?_, h4⟩, h5⟩
      have hrd : Rd k.w (k.ok F) t x cs := by rw [hw]; exact h1.mono ho (fun _ _ _ => rfl)
      cases agg with
      | true => exact (shape_rel (unpack_rel hrd) h2).1 rfl
      | false =>
        have : cs = [v] := by simpa [shape] using h2
        subst this
        exact hrd
  | .bx t :: ps, i, args, ds, hv, bs, avs, H, bxs, hp, h => by
    obtain ⟨b, vs', x, ds', cs, T, hv', bs', rfl, rfl, rfl, rfl, h1, h2, h3⟩ := h
    simp only [pars, castT_self] at hp
    split at hp
    case h_2 => cases hp
    rename_i x' z hx' hz
    cases hx'
    obtain ⟨z1, z2, z3⟩ := z
    cases hi : Nat.blt i 100000 with
    | false => rw [hi] at hp; cases hp
    | true =>
    rw [hi] at hp
    simp only [cond_true, Option.some.injEq, Prod.mk.injEq] at hp
    obtain ⟨rfl, rfl, rfl⟩ := hp
    have hi' : i < 100000 := Nat.le_of_ble_eq_true hi
    obtain ⟨lies, g1, g2, g3, g4, g5, g6, g7⟩ := pars_sound hz h3
    refine ⟨⟨boxId i, b, .slice none 0 0, []⟩ :: lies, by simp [g1], by simp [g2], by simp [g3], fun p hp => ?_, ?_, ⟨_, _, rfl, g6⟩, fun {F k} hw ho hH hl hn => ?_⟩
    · rcases List.mem_cons.1 hp with rfl | hp
      · exact .inl ⟨i, Nat.le_refl _, hi', rfl, rfl⟩
      · rcases g4 p hp with ⟨j, a, b⟩ | ⟨j, a, b⟩ | ⟨j, a, b⟩
        · exact .inl ⟨j, by omega, b⟩
        · exact .inr (.inl ⟨j, by omega, b⟩)
        · exact .inr (.inr ⟨j, by omega, b⟩)
    · simp only [List.map_cons, List.nodup_cons]
      refine ⟨fun hm => ?_, g5⟩
      obtain ⟨p, hp, h4⟩ := List.mem_map.1 hm
      rcases g4 p hp with ⟨j, a, b, c, _⟩ | ⟨j, a, b, c, _⟩ | ⟨j, a, b, c, _⟩
      · rw [c] at h4; simp only [boxId] at h4; omega
      · rw [c] at h4; simp only [boxId, parId] at h4; omega
      · rw [c] at h4; simp only [boxId, mvId] at h4; omega
    · obtain ⟨h4, h5, h6, h7, h8⟩ := g7 (F := F) hw ho (fun p hp => hH p (by simp [hp])) (fun q hq => hl q (by simp [hq])) (List.nodup_append.1 hn).2.1
      have hb : k.μ (boxId i) = b := (hl _ List.mem_cons_self).1
      have hbox := hH (boxId i, .box (unpack t x)) (by simp)
      refine ⟨⟨_, vs', rfl, ⟨⟨_, hbox⟩, by rw [hb]⟩, h4⟩, fun p hp => ?_, by rw [List.map_cons, h6]; show HV.bx (k.μ (boxId i)) :: hv' = _; rw [hb], fun p hp => ?_, by rw [List.flatMap_cons, h8]; show [k.μ (boxId i)] ++ bs' = _; rw [hb]⟩
      · rcases List.mem_cons.1 hp with rfl | hp
        · refine ⟨cs, T, by rw [hb, hw]; exact h1, unpack_rel (by rw [hw]; exact h2.mono ho (fun _ _ _ => rfl))⟩
        · exact h5 p hp
      · rcases List.mem_cons.1 hp with rfl | hp
        · exact ⟨_, hbox⟩
        · exact h7 p hp
  | .ow e r o :: ps, i, args, ds, hv, bs, avs, H, bxs, hp, h => by
    obtain ⟨v, vs', x, ds', us, bl, hv', bs', rfl, rfl, rfl, rfl, h1, h2, hlim, h3⟩ := h
    simp only [pars, castT_self] at hp
    split at hp
    case h_2 => cases hp
    rename_i x' z hx' hz
    cases hx'
    obtain ⟨z1, z2, z3⟩ := z
    cases hi : Nat.blt i 100000 with
    | false => rw [hi] at hp; cases hp
    | true =>
      rw [hi] at hp
      simp only [cond_true, Option.some.injEq, Prod.mk.injEq] at hp
      obtain ⟨rfl, rfl, rfl⟩ := hp
      have hi' : i + 1 ≤ 100000 := Nat.le_of_ble_eq_true hi
      have hpar := parId_par hi
      obtain ⟨lies, g1, g2, g3, g4, g5, g6, g7⟩ := pars_sound hz h3
      refine ⟨⟨parId i, 0, v, bl⟩ :: lies, by simp [g1], by simp [g2], by simp [g3], fun p hp => ?_, ?_, ⟨_, _, rfl, g6⟩, fun {F k} hw ho hH hl hn => ?_⟩
      · rcases List.mem_cons.1 hp with rfl | hp
        · exact .inr (.inl ⟨i, Nat.le_refl _, by omega, rfl, rfl⟩)
        · rcases g4 p hp with ⟨j, a, b⟩ | ⟨j, a, b⟩ | ⟨j, a, b⟩
          · exact .inl ⟨j, by omega, b⟩
          · exact .inr (.inl ⟨j, by omega, b⟩)
          · exact .inr (.inr ⟨j, by omega, b⟩)
      · simp only [List.map_cons, List.nodup_cons]
        refine ⟨fun hm => ?_, g5⟩
        obtain ⟨p, hp, h4⟩ := List.mem_map.1 hm
        rcases g4 p hp with ⟨j, a, b, c, _⟩ | ⟨j, a, b, c, _⟩ | ⟨j, a, b, c, _⟩
        · rw [c] at h4; simp only [boxId, parId] at h4; omega
        · rw [c] at h4; simp only [parId] at h4; omega
        · rw [c] at h4; simp only [parId, mvId] at h4; omega
      · obtain ⟨h4, h5, h6, h7, h8⟩ := g7 (F := F) hw ho (fun p hp => hH p (by simp [hp])) (fun q hq => hl q (by simp [hq])) (List.nodup_append.1 hn).2.1
        obtain ⟨_, hν, hnb⟩ := hl _ List.mem_cons_self
        dsimp only at hν hnb
        have harr := hH (parId i, .arr e r x (dpO o)) (by simp)
        have hbs : F.bs (parId i) = 0 := rfl
        obtain ⟨a, c, hform⟩ := h1.form
        refine ⟨⟨_, vs', rfl, ⟨⟨a, _, c, hform⟩, by rw [show k.h (parId i) = _ from harr]; exact hν.symm⟩, h4⟩, fun p hp => ?_, by rw [List.map_cons, h6]; show HV.ow (k.ν (parId i)) :: hv' = _; rw [hν], fun p hp => ?_, ?_⟩
        · rcases List.mem_cons.1 hp with rfl | hp
          · refine objR_of (us := us) (bl := bl) ?_ ?_ hlim hnb ?_
            · rw [hbs, hν, hw]; exact h1
            · rw [hbs, hw]; exact h2.mono ho
            · rw [hν]; exact (List.nodup_append.1 hn).1
          · exact h5 p hp
        · rcases List.mem_cons.1 hp with rfl | hp
          · exact ⟨_, harr⟩
          · exact h7 p hp
        · rw [List.flatMap_cons, h8]
          show ((ownB (k.ν (parId i))).toList ++ nbK k (parId i) o) ++ bs' = _
          rw [hν]
          cases o with
          | none => rw [h2.2]; rfl
          | some ns => show (_ ++ k.nb (parId i)) ++ _ = _; rw [hnb]
  | .mv e r o :: ps, i, args, ds, hv, bs, avs, H, bxs, hp, h => by
    obtain ⟨v, vs', x, ds', us, bl, hv', bs', rfl, rfl, rfl, rfl, h1, h2, hlim, h3⟩ := h
    simp only [pars, castT_self] at hp
    split at hp
    case h_2 => cases hp
    rename_i x' z hx' hz
    cases hx'
    obtain ⟨z1, z2, z3⟩ := z
    cases hi : Nat.blt i 100000 with
    | false => rw [hi] at hp; cases hp
    | true =>
      rw [hi] at hp
      simp only [cond_true, Option.some.injEq, Prod.mk.injEq] at hp
      obtain ⟨rfl, rfl, rfl⟩ := hp
      have hi' : i + 1 ≤ 100000 := Nat.le_of_ble_eq_true hi
      obtain ⟨lies, g1, g2, g3, g4, g5, g6, g7⟩ := pars_sound hz h3
      refine ⟨⟨mvId i, 0, v, bl⟩ :: lies, by simp [g1], by simp [g2], by simp [g3], fun p hp => ?_, ?_, ⟨_, _, rfl, g6⟩, fun {F k} hw ho hH hl hn => ?_⟩
      · rcases List.mem_cons.1 hp with rfl | hp
        · exact .inr (.inr ⟨i, Nat.le_refl _, by omega, rfl, rfl⟩)
        · rcases g4 p hp with ⟨j, a, b⟩ | ⟨j, a, b⟩ | ⟨j, a, b⟩
          · exact .inl ⟨j, by omega, b⟩
          · exact .inr (.inl ⟨j, by omega, b⟩)
          · exact .inr (.inr ⟨j, by omega, b⟩)
      · simp only [List.map_cons, List.nodup_cons]
        refine ⟨fun hm => ?_, g5⟩
        obtain ⟨p, hp, h4⟩ := List.mem_map.1 hm
        rcases g4 p hp with ⟨j, a, b, c, _⟩ | ⟨j, a, b, c, _⟩ | ⟨j, a, b, c, _⟩
        · rw [c] at h4; simp only [boxId, mvId] at h4; omega
        · rw [c] at h4; simp only [parId, mvId] at h4; omega
        · rw [c] at h4; simp only [mvId] at h4; omega
      · obtain ⟨h4, h5, h6, h7, h8⟩ := g7 (F := F) hw ho (fun p hp => hH p (by simp [hp])) (fun q hq => hl q (by simp [hq])) (List.nodup_append.1 hn).2.1
        obtain ⟨_, hν, hnb⟩ := hl _ List.mem_cons_self
        dsimp only at hν hnb
        have harr := hH (mvId i, .arr e r x (dpO o)) (by simp)
        have hbs : F.bs (mvId i) = 0 := rfl
        obtain ⟨a, c, hform⟩ := h1.form
        refine ⟨⟨_, vs', rfl, ⟨⟨a, _, c, hform⟩, by rw [show k.h (mvId i) = _ from harr]; exact hν.symm⟩, h4⟩, fun p hp => ?_, by rw [List.map_cons, h6]; rfl, fun p hp => ?_, ?_⟩
        · rcases List.mem_cons.1 hp with rfl | hp
          · refine objR_of (us := us) (bl := bl) ?_ ?_ hlim hnb ?_
            · rw [hbs, hν, hw]; exact h1
            · rw [hbs, hw]; exact h2.mono ho
            · rw [hν]; exact (List.nodup_append.1 hn).1
          · exact h5 p hp
        · rcases List.mem_cons.1 hp with rfl | hp
          · exact ⟨_, harr⟩
          · exact h7 p hp
        · rw [List.flatMap_cons, h8]
          show ((ownB (k.ν (mvId i))).toList ++ nbK k (mvId i) o) ++ bs' = _
          rw [hν]
          cases o with
          | none => rw [h2.2]; rfl
          | some ns => show (_ ++ k.nb (mvId i)) ++ _ = _; rw [hnb]
  | .sp _ :: _, i, args, ds, hv, bs, avs, H, bxs, hp, h => h.elim
  | .cl _ _ :: _, i, args, ds, hv, bs, avs, H, bxs, hp, h => h.elim
theorem ptrIds_sound {F : Fx} {k : K} : ∀ {n : Nat} {favs : List AV} {z : List Nat × List AV} {fargs : List Value}, ptrIds n favs = some z → CallOK.relAs F k favs fargs →
    ∃ fs, z.1.length = n ∧ fargs = (z.1.map fun id => Value.pointer (some ⟨k.μ id, 0, none⟩)) ++ fs ∧ (∀ id ∈ z.1, ∃ cs, k.h id = some (.box cs)) ∧ CallOK.relAs F k z.2 fs
  | 0, favs, z, fargs, h, ha => by
    simp only [ptrIds, Option.some.injEq] at h
    subst h
    exact ⟨fargs, rfl, rfl, fun _ h => by simp at h, ha⟩
  | n + 1, [], z, fargs, h, ha => by simp [ptrIds] at h
  | n + 1, v :: favs, z, fargs, h, ha => by
    unfold ptrIds at h
    split at h
    · rename_i h1; cases h1
    · rename_i m id vs h1 h2
      cases h2
      injection h1 with h1
      subst h1
      split at h
      · rename_i y hy
        simp only [Option.some.injEq] at h
        subst h
        obtain ⟨x, xs, rfl, hx, hxs⟩ := ha
        obtain ⟨fs, h3, h4, h5, h6⟩ := ptrIds_sound hy hxs
        obtain ⟨h7, h8⟩ := hx
        refine ⟨fs, by simp [h3], by simp [h4, h8], fun i hi => ?_, h6⟩
        rcases List.mem_cons.1 hi with rfl | hi
        · exact h7
        · exact h5 i hi
      · cases h
    · cases h
theorem oneCs_sound {F : Fx} {k : K} : ∀ {n : Nat} {favs : List AV} {z : List C × List AV} {fargs : List Value}, oneCs n favs = some z → CallOK.relAs F k favs fargs →
    ∃ ws fs, ws.length = n ∧ fargs = ws ++ fs ∧ relCs F k z.1 ws ∧ CallOK.relAs F k z.2 fs
  | 0, favs, z, fargs, h, ha => by
    simp only [oneCs, Option.some.injEq] at h
    subst h
    exact ⟨[], fargs, rfl, rfl, rfl, ha⟩
  | n + 1, [], z, fargs, h, ha => by simp [oneCs] at h
  | n + 1, v :: favs, z, fargs, h, ha => by
    unfold oneCs at h
    split at h
    · rename_i h1; cases h1
    · rename_i m c vs h1 h2
      cases h2
      injection h1 with h1
      subst h1
      split at h
      · rename_i y hy
        simp only [Option.some.injEq] at h
        subst h
        obtain ⟨x, xs, rfl, hx, hxs⟩ := ha
        obtain ⟨ws, fs, h3, h4, h5, h6⟩ := oneCs_sound hy hxs
        exact ⟨x :: ws, fs, by simp [h3], by simp [h4], ⟨x, ws, rfl, hx, h5⟩, h6⟩
      · cases h
    · cases h
theorem unfl_sound {F : Fx} {k : K} : ∀ {ps : List PS} {favs avs : List AV} {args fargs : List Value}, unfl ps favs = some avs → FlatV ps args fargs → CallOK.relAs F k favs fargs → CallOK.relAs F k avs args ∧ avs.length = ps.length
  | [], [], avs, args, fargs, h, hf, ha => by
    simp only [unfl, Option.some.injEq] at h
    subst h
    obtain ⟨rfl, _⟩ := hf
    exact ⟨rfl, rfl⟩
  | [], _ :: _, avs, args, fargs, h, hf, ha => by simp [unfl] at h
  | .d t a :: ps, [], avs, args, fargs, h, hf, ha => by simp [unfl] at h
  | .bx t :: ps, [], avs, args, fargs, h, hf, ha => by simp [unfl] at h
  | .ow e r o :: ps, [], avs, args, fargs, h, hf, ha => by simp [unfl] at h
  | .ow e r o :: ps, v :: favs, avs, args, fargs, h, hf, ha => by
    obtain ⟨x, vs', us', rfl, rfl, hf⟩ := hf
    obtain ⟨y, ys, he, hx, hxs⟩ := ha
    cases he
    simp only [unfl] at h
    split at h
    · rename_i z hz
      simp only [Option.some.injEq] at h
      subst h
      obtain ⟨h1, h2⟩ := unfl_sound hz hf hxs
      exact ⟨⟨x, vs', rfl, hx, h1⟩, by simp [h2]⟩
    · cases h
  | .mv e r o :: ps, v :: favs, avs, args, fargs, h, hf, ha => by
    obtain ⟨x, vs', us', rfl, rfl, hf⟩ := hf
    obtain ⟨y, ys, he, hx, hxs⟩ := ha
    cases he
    simp only [unfl] at h
    split at h
    · rename_i z hz
      simp only [Option.some.injEq] at h
      subst h
      obtain ⟨h1, h2⟩ := unfl_sound hz hf hxs
      exact ⟨⟨x, vs', rfl, hx, h1⟩, by simp [h2]⟩
    · cases h
  | .mv e r o :: ps, [], avs, args, fargs, h, hf, ha => by simp [unfl] at h
  | .sp l :: ps, favs, avs, args, fargs, h, hf, ha => by
    obtain ⟨cs, vs', us', rfl, rfl, hl, hf⟩ := hf
    simp only [unfl] at h
    split at h
    · rename_i z hz
      split at h
      · rename_i y hy
        simp only [Option.some.injEq] at h
        subst h
        obtain ⟨ws, fs, h3, h4, h5, h6⟩ := oneCs_sound hz ha
        have h7 := List.append_inj h4 (by rw [hl, h3])
        obtain ⟨rfl, rfl⟩ := h7
        obtain ⟨h8, h9⟩ := unfl_sound hy hf h6
        exact ⟨⟨_, vs', rfl, ⟨cs, rfl, h5⟩, h8⟩, by simp [h9]⟩
      · cases h
    · cases h
  | .d t a :: ps, v :: favs, avs, args, fargs, h, hf, ha => by
    obtain ⟨x, vs', us', rfl, rfl, hf⟩ := hf
    obtain ⟨y, ys, he, hx, hxs⟩ := ha
    cases he
    simp only [unfl] at h
    split at h
    · rename_i z hz
      simp only [Option.some.injEq] at h
      subst h
      obtain ⟨h1, h2⟩ := unfl_sound hz hf hxs
      exact ⟨⟨x, vs', rfl, hx, h1⟩, by simp [h2]⟩
    · cases h
  | .bx t :: ps, v :: favs, avs, args, fargs, h, hf, ha => by
    obtain ⟨x, vs', us', rfl, rfl, hf⟩ := hf
    obtain ⟨y, ys, he, hx, hxs⟩ := ha
    cases he
    simp only [unfl] at h
    split at h
    · rename_i z hz
      simp only [Option.some.injEq] at h
      subst h
      obtain ⟨h1, h2⟩ := unfl_sound hz hf hxs
      exact ⟨⟨x, vs', rfl, hx, h1⟩, by simp [h2]⟩
    · cases h
  | .cl g ts :: ps, favs, avs, args, fargs, h, hf, ha => by
    obtain ⟨caps, vs', us', rfl, rfl, hl, hf⟩ := hf
    simp only [unfl] at h
    split at h
    · rename_i z hz
      split at h
      · rename_i y hy
        simp only [Option.some.injEq] at h
        subst h
        obtain ⟨fs, h3, h4, h5, h6⟩ := ptrIds_sound hz ha
        have h7 := List.append_inj h4 (by simp [h3, hl])
        obtain ⟨rfl, rfl⟩ := h7
        obtain ⟨h8, h9⟩ := unfl_sound hy hf h6
        exact ⟨⟨_, vs', rfl, ⟨h5, rfl⟩, h8⟩, by simp [h9]⟩
      · cases h
    · cases h
def ownL (k : K) (id : Nat) : List Nat := match k.h id with
  | some (.arr _ _ _ .no) => (ownB (k.ν id)).toList
  | some (.arr _ _ _ (.yes _ _)) => (ownB (k.ν id)).toList ++ k.nb id
  | _ => []
def blkD (k : K) (ids : List Nat) : List Nat := ids.flatMap (ownL k)
theorem ownL_mem {k : K} {id e : Nat} {r : Ty} {xs : List r.den} {o : Option (List Nat)} (h : k.h id = some (.arr e r xs (dpO o))) (c : Nat) : k.own id c ↔ c ∈ ownL k id := by
  unfold ownL
  rw [h]
  cases o with
  | none => rw [own_no h]; simp [dpO]
  | some ns => rw [own_yes h]; simp [dpO]
theorem ownL_eq {k : K} {id e : Nat} {r : Ty} {xs : List r.den} {o : Option (List Nat)} (h : k.h id = some (.arr e r xs (dpO o))) : ownL k id = (ownB (k.ν id)).toList ++ nbK k id o := by
  cases o with
  | none => unfold ownL; rw [h]; simp [dpO, nbK]
  | some ns => unfold ownL; rw [h]; rfl
theorem extC_sound {F : Fx} {k : K} (hk : HeapOK F k) {H : List (Nat × Ob)} (hS : k.h = lkH H) : ∀ {t : Ty} {cs rest : List C} {x : t.den} {es es' : List (Nat × Option (List Nat))} {ids : List Nat}, extC H t cs es = some (x, rest, es', ids) → ∀ {vs : List Value}, relCs F k cs vs →
    ∃ u v, vs = u ++ v ∧ relCs F k rest v ∧ (∀ id ∈ ids, ∃ e r xs o, k.h id = some (.arr e r xs (dpO o)) ∧ isPar id = false) ∧ OwnRd2 k.w (k.ok F) 0 t x es u es' (blkD k ids)
  | .pair a b, cs, rest, x, es, es', ids, h, vs, hv => by
    simp only [extC] at h
    split at h
    · rename_i p hp
      split at h
      · rename_i q hq
        simp only [Option.some.injEq, Prod.mk.injEq] at h
        obtain ⟨rfl, rfl, rfl, rfl⟩ := h
        obtain ⟨u1, v1, rfl, h1, h2, h3⟩ := extC_sound hk hS (x := p.1) (rest := p.2.1) (es' := p.2.2.1) (ids := p.2.2.2) hp hv
        obtain ⟨u2, v2, rfl, h4, h5, h6⟩ := extC_sound hk hS (x := q.1) (rest := q.2.1) (es' := q.2.2.1) (ids := q.2.2.2) hq h1
        refine ⟨u1 ++ u2, v2, by simp, h4, fun id hi => ?_, u1, u2, _, _, _, rfl, h3, h6, by simp [blkD]⟩
        rcases List.mem_append.1 hi with hi | hi
        · exact h2 id hi
        · exact h5 id hi
      · cases h
    · cases h
  | .slice r, cs, rest, x, es, es', ids, h, vs, hv => by
    cases cs with
    | nil => simp [extC] at h
    | cons c cs =>
      obtain ⟨v, vs', rfl, h1, h2⟩ := hv
      cases es with
      | nil => cases c <;> simp [extC] at h
      | cons e es =>
        cases c with
        | emp =>
          simp only [extC, Option.some.injEq, Prod.mk.injEq] at h
          obtain ⟨rfl, rfl, rfl, rfl⟩ := h
          have h1 : v = .slice none 0 0 := h1
          subst h1
          exact ⟨[_], vs', rfl, h2, fun _ h => by simp at h, e, _, [], [], rfl, rfl, .mt none, (by cases e.2 <;> exact ⟨rfl, rfl⟩), Nat.zero_le _, rfl⟩
        | mt =>
          simp only [extC, Option.some.injEq, Prod.mk.injEq] at h
          obtain ⟨rfl, rfl, rfl, rfl⟩ := h
          obtain ⟨a, rfl⟩ := h1
          exact ⟨[_], vs', rfl, h2, fun _ h => by simp at h, e, _, [], [], rfl, rfl, .mt a, (by cases e.2 <;> exact ⟨rfl, rfl⟩), Nat.zero_le _, by rw [ownB_zero]; rfl⟩
        | arr id =>
          simp only [extC] at h
          rw [← hS] at h
          split at h
          · rename_i e' r' xs d hid
            split at h
            · rename_i y hy
              cases hb : (Nat.beq e' e.1 && (dpEq d e.2 && !isPar id)) with
              | false => rw [hb] at h; cases h
              | true =>
                rw [hb] at h
                simp only [cond_true, Option.some.injEq, Prod.mk.injEq] at h
                obtain ⟨rfl, rfl, rfl, rfl⟩ := h
                obtain ⟨he, rfl⟩ := castT_eq hy
                injection he with he
                subst he
                simp only [Bool.and_eq_true, Bool.not_eq_true'] at hb
                obtain ⟨hb, hd, hp⟩ := hb
                obtain rfl := Nat.eq_of_beq_eq_true hb
                obtain rfl := dpEq_eq hd
                obtain ⟨_, h1⟩ := h1
                rw [hid] at h1
                have h1 : v = k.ν id := h1
                obtain ⟨us, bl, h3, h4, h5, _, _, h6⟩ := objO hk hid
                refine ⟨[v], vs', rfl, h2, fun i hi => ?_, e, v, us, bl, rfl, rfl, by rw [h1]; exact h3, h4, h5, ?_⟩
                · simp at hi
                  subst hi
                  exact ⟨_, _, _, _, hid, hp⟩
                · have hbl : bl = nbK k id e.2 := h6
                  rw [h1, hbl]
                  simp only [blkD, List.flatMap_cons, List.flatMap_nil, List.append_nil]
                  exact ownL_eq hid
            · cases h
          · cases h
        | _ => simp [extC] at h
  | .bool, cs, rest, x, es, es', ids, h, vs, hv => by
    cases cs with
    | nil => simp [extC] at h
    | cons c cs =>
      obtain ⟨v, vs', rfl, h1, h2⟩ := hv
      cases c with
      | v t' y =>
        simp only [extC] at h
        split at h
        · rename_i z hz
          simp only [Option.some.injEq, Prod.mk.injEq] at h
          obtain ⟨rfl, rfl, rfl, rfl⟩ := h
          obtain ⟨he, rfl⟩ := castT_eq hz
          subst he
          exact ⟨[v], vs', rfl, h2, fun _ h => by simp at h, rfl, rfl, h1⟩
        · cases h
      | _ => simp [extC] at h
  | .int kk, cs, rest, x, es, es', ids, h, vs, hv => by
    cases cs with
    | nil => simp [extC] at h
    | cons c cs =>
      obtain ⟨v, vs', rfl, h1, h2⟩ := hv
      cases c with
      | v t' y =>
        simp only [extC] at h
        split at h
        · rename_i z hz
          simp only [Option.some.injEq, Prod.mk.injEq] at h
          obtain ⟨rfl, rfl, rfl, rfl⟩ := h
          obtain ⟨he, rfl⟩ := castT_eq hz
          subst he
          exact ⟨[v], vs', rfl, h2, fun _ h => by simp at h, rfl, rfl, h1⟩
        · cases h
      | _ => simp [extC] at h
  | .str, cs, rest, x, es, es', ids, h, vs, hv => by
    cases cs with
    | nil => simp [extC] at h
    | cons c cs =>
      obtain ⟨v, vs', rfl, h1, h2⟩ := hv
      cases c with
      | v t' y =>
        simp only [extC] at h
        split at h
        · rename_i z hz
          simp only [Option.some.injEq, Prod.mk.injEq] at h
          obtain ⟨rfl, rfl, rfl, rfl⟩ := h
          obtain ⟨he, rfl⟩ := castT_eq hz
          subst he
          exact ⟨[v], vs', rfl, h2, fun _ h => by simp at h, rfl, rfl, h1⟩
        · cases h
      | _ => simp [extC] at h
end Go.MC

set_option linter.unusedVariables false
set_option linter.unusedSimpArgs false
namespace Go.MC
open Go.RowKit
theorem packX_sound {F : Fx} {k : K} (hk : HeapOK F k) {H : List (Nat × Ob)} (hS : k.h = lkH H) {t : Ty} {cs : List C} {x : t.den} {l : List Nat} (h : pack true t cs (t.den × List C × List Nat) ⟨[], H⟩ [] (fun p _ => some (p.1, p.2.1, p.2.2.map (·.1))) = some (x, [], l)) {vs : List Value} (hv : relCs F k cs vs) :
    Rd k.w (k.okT F l) t x vs ∧ ∀ id ∈ l, ∃ e r xs d, k.h id = some (.arr e r xs d) ∧ isPar id = false := by
  obtain ⟨p, R, ht, hr⟩ := (good_pack true t cs).tells h
  simp only [Option.some.injEq, Prod.mk.injEq] at hr
  obtain ⟨rfl, h2, rfl⟩ := hr
  obtain ⟨l1, u, v1, rfl, hr1, ht1, hd1, hf1, hz1⟩ := pack_sound hk (S := ⟨[], H⟩) hS (x := p.1) (rest := p.2.1) (obs := p.2.2) ht hv
  rw [h2] at hr1
  simp only [relCs] at hr1
  subst hr1
  rw [List.append_nil]
  refine ⟨hd1.mono (fun b hb => okT_mono (hz1 rfl) hb) (fun _ _ _ => rfl), fun id hi => ?_⟩
  obtain ⟨q, hq, rfl⟩ := List.mem_map.1 hi
  obtain ⟨e, r, xs, d, h3, _, _, h4⟩ := hf1 q hq
  exact ⟨e, r, xs, d, h3, h4⟩
theorem OwnRd2.mono {w : World} {ok ok' : Nat → Prop} {base : Nat} (ho : ∀ c, ok c → ok' c) : ∀ {t : Ty} {x : t.den} {es : List (Nat × Option (List Nat))} {vs : List Value} {es' : List (Nat × Option (List Nat))} {os : List Nat}, OwnRd2 w ok base t x es vs es' os → OwnRd2 w ok' base t x es vs es' os
  | .bool, _, _, _, _, _, h => h
  | .int _, _, _, _, _, _, h => h
  | .str, _, _, _, _, _, h => h
  | .slice r, _, _, _, _, _, h => by
    obtain ⟨e, v, us, bl, h1, h2, h3, h4, h5, h6⟩ := h
    exact ⟨e, v, us, bl, h1, h2, h3, h4.mono ho, h5, h6⟩
  | .pair _ _, _, _, _, _, _, h => by
    obtain ⟨v1, v2, es1, o1, o2, rfl, h1, h2, rfl⟩ := h
    exact ⟨v1, v2, es1, o1, o2, rfl, h1.mono ho, h2.mono ho, rfl⟩
theorem ext1_sound {F : Fx} {k : K} (hk : HeapOK F k) {H : List (Nat × Ob)} (hS : k.h = lkH H) : ∀ {rs : List RS} {vs : List V1} {ds : List Dv} {ids tk : List Nat}, ext1 H rs vs = some (ds, ids, tk) → ∀ {vals : List Value}, relVs F k vs vals →
    ((∀ id ∈ ids, ∃ e r xs o, k.h id = some (.arr e r xs (dpO o)) ∧ isPar id = false) ∧ ∀ id ∈ tk, ∃ e r xs d, k.h id = some (.arr e r xs d) ∧ isPar id = false) ∧ ∀ {ok' : Nat → Prop}, (∀ c, k.okT F tk c → ok' c) → ∀ rest, ResRd k.w ok' 0 rs vals (ds ++ rest) rest (blkD k ids)
  | [], [], ds, ids, tk, h, vals, hv => by
    simp only [ext1, Option.some.injEq, Prod.mk.injEq] at h
    obtain ⟨rfl, rfl, rfl⟩ := h
    simp only [relVs] at hv
    subst hv
    exact ⟨⟨fun _ h => by simp at h, fun _ h => by simp at h⟩, fun _ _ => ⟨rfl, rfl, rfl⟩⟩
  | [], _ :: _, ds, ids, tk, h, vals, hv => by simp [ext1] at h
  | .any :: rs, [], ds, ids, tk, h, vals, hv => by simp [ext1] at h
  | .d t agg :: rs, [], ds, ids, tk, h, vals, hv => by simp [ext1] at h
  | .own t agg es :: rs, [], ds, ids, tk, h, vals, hv => by simp [ext1] at h
  | .any :: rs, v :: vs, ds, ids, tk, h, vals, hv => by
    obtain ⟨x, xs, rfl, h1, h2⟩ := hv
    simp only [ext1] at h
    obtain ⟨h3, h4⟩ := ext1_sound hk hS h h2
    exact ⟨h3, fun ho rest => ⟨x, xs, rfl, h4 ho rest⟩⟩
  | .d t agg :: rs, v :: vs, ds, ids, tk, h, vals, hv => by
    obtain ⟨x, xs, rfl, h1, h2⟩ := hv
    have hsh : ∃ cells, relCs F k v.cells cells ∧ shape agg cells x ∧ (match pack true t v.cells (t.den × List C × List Nat) ⟨[], H⟩ [] (fun p _ => some (p.1, p.2.1, p.2.2.map (·.1))), ext1 H rs vs with
      | some (x, [], l), some z => some ((⟨t, x⟩ :: z.1, z.2.1, l ++ z.2.2) : List Dv × List Nat × List Nat)
      | _, _ => none) = some (ds, ids, tk) := by
      cases agg with
      | true =>
        cases v with
        | one c => simp [ext1] at h
        | agg cs =>
          obtain ⟨cells, h3, h4⟩ := relV_shape_agg h1
          exact ⟨cells, h4, h3, h⟩
      | false =>
        cases v with
        | one c => exact ⟨[x], ⟨x, [], rfl, h1, rfl⟩, by simp [shape], h⟩
        | agg cs => simp [ext1] at h
    obtain ⟨cells, h3, h4, h⟩ := hsh
    split at h
    · rename_i y l z hp hz
      obtain ⟨z1, z2, z3⟩ := z
      simp only [Option.some.injEq, Prod.mk.injEq] at h
      obtain ⟨rfl, rfl, rfl⟩ := h
      obtain ⟨hrd, hla⟩ := packX_sound hk hS hp h3
      obtain ⟨h5, h6⟩ := ext1_sound hk hS hz h2
      refine ⟨⟨h5.1, fun id hi => (List.mem_append.1 hi).elim (hla id) (h5.2 id)⟩, fun {ok'} ho rest => ⟨x, xs, y, z1 ++ rest, cells, rfl, rfl, hrd.mono (fun c hc => ho c (okT_mono (fun i hi => List.mem_append.2 (.inl hi)) hc)) (fun _ _ _ => rfl), h4, h6 (fun c hc => ho c (okT_mono (fun i hi => List.mem_append.2 (.inr hi)) hc)) rest⟩⟩
    · cases h
  | .own t agg es :: rs, v :: vs, ds, ids, tk, h, vals, hv => by
    obtain ⟨x, xs, rfl, h1, h2⟩ := hv
    have hsh : ∃ cells, relCs F k v.cells cells ∧ shape agg cells x ∧ (match extC H t v.cells es, ext1 H rs vs with
      | some (x, [], [], ids), some z => some ((⟨t, x⟩ :: z.1, ids ++ z.2.1, z.2.2) : List Dv × List Nat × List Nat)
      | _, _ => none) = some (ds, ids, tk) := by
      cases agg with
      | true =>
        cases v with
        | one c => simp [ext1] at h
        | agg cs =>
          obtain ⟨cells, h3, h4⟩ := relV_shape_agg h1
          exact ⟨cells, h4, h3, h⟩
      | false =>
        cases v with
        | one c => exact ⟨[x], ⟨x, [], rfl, h1, rfl⟩, by simp [shape], h⟩
        | agg cs => simp [ext1] at h
    obtain ⟨cells, h3, h4, h⟩ := hsh
    split at h
    · rename_i y i1 z hp hz
      obtain ⟨z1, z2, z3⟩ := z
      simp only [Option.some.injEq, Prod.mk.injEq] at h
      obtain ⟨rfl, rfl, rfl⟩ := h
      obtain ⟨u, w, rfl, g1, g2, g3⟩ := extC_sound hk hS hp h3
      simp only [relCs] at g1
      subst g1
      rw [List.append_nil] at h4
      obtain ⟨h5, h6⟩ := ext1_sound hk hS hz h2
      refine ⟨⟨fun id hi => ?_, h5.2⟩, fun {ok'} ho rest => ⟨x, xs, y, z1 ++ rest, u, blkD k i1, blkD k z2, rfl, rfl, g3.mono (fun c hc => ho c (.inl hc)), h4, h6 ho rest, by simp [blkD]⟩⟩
      rcases List.mem_append.1 hi with hi | hi
      · exact g2 id hi
      · exact h5.1 id hi
    · cases h
theorem extB_sound {F : Fx} {k : K} (hk : HeapOK F k) {H : List (Nat × Ob)} (hS : k.h = lkH H) : ∀ {ps : List PS} {bxs : List (Nat × Hd)} {ds : List Dv} {tk : List Nat}, BxOf ps bxs → extB H bxs = some (ds, tk) →
    (∀ id ∈ tk, ∃ e r xs d, k.h id = some (.arr e r xs d) ∧ isPar id = false) ∧ (∀ p ∈ bxs, isMv p.2 = false → HdIn k p) ∧ ∀ {ok' : Nat → Prop}, (∀ c, k.okT F tk c → ok' c) → BoxRd k.w ok' ps (bxs.map (hvK k)) ds (bxs.flatMap (bkK k))
  | [], bxs, ds, tk, hb, h => by
    have hb : bxs = [] := hb
    subst hb
    simp only [extB, Option.some.injEq, Prod.mk.injEq] at h
    obtain ⟨rfl, rfl⟩ := h
    exact ⟨fun _ h => by simp at h, fun _ h => by simp at h, fun _ => ⟨rfl, rfl, rfl⟩⟩
  | .d _ _ :: ps, bxs, ds, tk, hb, h => extB_sound (ps := ps) hk hS hb h
  | .cl _ _ :: _, bxs, ds, tk, hb, h => hb.elim
  | .sp _ :: _, bxs, ds, tk, hb, h => hb.elim
  | .mv e r o :: ps, bxs, ds, tk, hb, h => by
    obtain ⟨id, l, rfl, hb⟩ := hb
    simp only [extB] at h
    obtain ⟨h5, h7, h6⟩ := extB_sound (ps := ps) hk hS hb h
    refine ⟨h5, fun p hp => ?_, fun {ok'} ho => ⟨_, rfl, h6 ho⟩⟩
    rcases List.mem_cons.1 hp with rfl | hp
    · exact fun h => by cases h
    · exact h7 p hp
  | .bx t :: ps, bxs, ds, tk, hb, h => by
    obtain ⟨id, l, rfl, hb⟩ := hb
    simp only [extB] at h
    rw [← hS] at h
    split at h
    · rename_i cs hid
      split at h
      · rename_i y l1 z hp hz
        obtain ⟨z1, z2⟩ := z
        simp only [Option.some.injEq, Prod.mk.injEq] at h
        obtain ⟨rfl, rfl⟩ := h
        obtain ⟨vs, T, h1, h2⟩ := hk.obj id _ hid
        obtain ⟨hrd, hla⟩ := packX_sound hk hS hp h2
        obtain ⟨h5, h7, h6⟩ := extB_sound (ps := ps) hk hS hb hz
        refine ⟨fun i hi => (List.mem_append.1 hi).elim (hla i) (h5 i), fun p hp => ?_, fun {ok'} ho => ⟨k.μ id, _, y, z1, vs, T, _, rfl, rfl, rfl, h1, hrd.mono (fun c hc => ho c (okT_mono (fun i hi => List.mem_append.2 (.inl hi)) hc)) (fun _ _ _ => rfl), h6 (fun c hc => ho c (okT_mono (fun i hi => List.mem_append.2 (.inr hi)) hc))⟩⟩
        rcases List.mem_cons.1 hp with rfl | hp
        · exact fun _ => ⟨cs, hid⟩
        · exact h7 p hp
      · cases h
    · cases h
  | .ow e r o :: ps, bxs, ds, tk, hb, h => by
    obtain ⟨id, l, rfl, hb⟩ := hb
    simp only [extB] at h
    rw [← hS] at h
    split at h
    · rename_i e' r' xs d hid
      cases hc : (Nat.beq e' e && dpEq d o) with
      | false => rw [hc] at h; cases h
      | true =>
        rw [hc] at h
        simp only [cond_true] at h
        split at h
        · rename_i y z hp hz
          obtain ⟨z1, z2⟩ := z
          simp only [Option.some.injEq, Prod.mk.injEq] at h
          obtain ⟨rfl, rfl⟩ := h
          simp only [Bool.and_eq_true] at hc
          obtain rfl := Nat.eq_of_beq_eq_true hc.1
          obtain rfl := dpEq_eq hc.2
          obtain ⟨he, rfl⟩ := castT_eq hp
          injection he with he
          subst he
          obtain ⟨us, bl, g1, g2, g3, _, _, g4⟩ := objO hk hid
          obtain ⟨h5, h7, h6⟩ := extB_sound (ps := ps) hk hS hb hz
          refine ⟨h5, fun p hp => ?_, fun {ok'} ho => ⟨k.ν id, _, xs, z1, us, bl, _, rfl, rfl, by rw [g4]; rfl, ownsRow_base g1 (Nat.zero_le _), (g2.base (Nat.zero_le _)).mono fun c hc => ho c (.inl hc), g3, h6 ho⟩⟩
          rcases List.mem_cons.1 hp with rfl | hp
          · exact fun _ => ⟨_, hid⟩
          · exact h7 p hp
        · cases h
    · cases h
theorem entOf_mem : ∀ {l : List (Nat × Hd)} {p : Nat × Hd}, p ∈ l → isMv p.2 = false → p.1 ∈ entOf l
  | [], _, h, _ => by simp at h
  | (i, hd) :: l, p, h, hm => by
    simp only [entOf]
    rcases List.mem_cons.1 h with rfl | h
    · rw [hm]; simp
    · have := entOf_mem h hm
      cases isMv hd <;> simp [this]
def lkLie : List Lie → Nat → Lie
  | [], _ => ⟨0, 0, .slice none 0 0, []⟩
  | x :: l, i => if x.n = i then x else lkLie l i
theorem lkLie_mem : ∀ {l : List Lie}, (l.map Lie.n).Nodup → ∀ {x : Lie}, x ∈ l → lkLie l x.n = x
  | [], _, x, h => by simp at h
  | y :: l, hn, x, h => by
    simp only [List.map_cons, List.nodup_cons] at hn
    simp only [lkLie]
    rcases List.mem_cons.1 h with rfl | h
    · simp
    · rw [if_neg (fun e => hn.1 (List.mem_map.2 ⟨x, h, e.symm⟩))]
      exact lkLie_mem hn.2 h
theorem ownL_nodup {F : Fx} {k : K} (hk : HeapOK F k) {id e : Nat} {r : Ty} {xs : List r.den} {o : Option (List Nat)} (h : k.h id = some (.arr e r xs (dpO o))) : (ownL k id).Nodup := by
  obtain ⟨us, bl, _, _, _, _, h1, h2⟩ := objO hk h
  rw [ownL_eq h, ← h2]
  exact h1
section mem
variable {P : Program}
theorem contract_of {TT : Nat → Option TD} {Φ : Nat → Option Summ} {inl : (ρ : Type) → Nat → List AV → List (Nat × Ob) → (AV → List (Nat × Ob) → Option ρ) → Option ρ} {N : Nat} (hTT : TTok P TT) (hΦ : CallOK P Φ) (hinl : InlOK P inl) (hm : P.follows .mixedOrders = true)
    {g : Nat} {f : FI} (hf : FnOK P g f) {s : Summ} (hl : s.ps.length ≤ f.ntmps) (hrun : ∀ ds, DsFit (flatP s.ps) ds → s.pre ds = true → ∃ (R : Type) (d : List Dv → Option R) (r : R), runST d TT Φ inl N f s ds = some r ∧ ∀ ds', d ds' = some r → ds' = s.out ds) : Contract P g s := by
  refine ⟨fun args w => hf.calls args w, fun w ok args fargs ds hv0 bs hfv ha hbn hbr hok hpre => ?_⟩
  obtain ⟨R0, d0, r0, hr, hout⟩ := hrun ds (argsRd_fit ha) hpre
  unfold runST at hr
  split at hr
  case h_2 => cases hr
  rename_i pz hpars
  obtain ⟨avs, H, bxs⟩ := pz
  obtain ⟨lies, g1, g2, g3, g4, g5, g6, g7⟩ := pars_sound hpars ha
  dsimp only at hr
  split at hr
  case h_2 => cases hr
  rename_i avs' hun
  let F : Fx := ⟨w.heap.size, ok, (· ∈ bs), w, hok, fun b h1 h2 => (hbr b h2).2 h1⟩
  let k0 : K := ⟨w, lkH H, fun i => (lkLie lies i).μ, fun i => (lkLie lies i).ν, fun i => (lkLie lies i).nb⟩
  have hlie : ∀ x ∈ lies, LieOK k0 x := by
    intro x hx
    have := lkLie_mem (by rw [g2]; exact g5) hx
    exact ⟨congrArg Lie.μ this, congrArg Lie.ν this, congrArg Lie.nb this⟩
  have hH : ∀ p ∈ H, k0.h p.1 = some p.2 := fun p hp => lkH_nodup (by rw [g1]; exact g5) hp
  obtain ⟨hrel, hobj, hhv, hin, hbsq⟩ := g7 (F := F) (k := k0) rfl (fun c hc => .inl hc) hH hlie hbn
  have hown : ∀ i c, k0.own i c → ∃ p ∈ bxs, p.1 = i ∧ c ∈ bsK k0 p := by
    intro i c h
    have h0 := h
    unfold K.own at h
    cases hi : k0.h i with
    | none => rw [hi] at h; exact h.elim
    | some o =>
      have hmem := lkH_some (show lkH H i = some o from hi)
      have : i ∈ bxs.map (·.1) := by rw [← g1]; exact List.mem_map.2 ⟨_, hmem, rfl⟩
      obtain ⟨p, hp, rfl⟩ := List.mem_map.1 this
      exact ⟨p, hp, rfl, (own_bsK (hin p hp) c).1 h0⟩
  have hk0 : HeapOK F k0 := by
    refine ⟨fun i o h => hobj (i, o) (lkH_some h), fun i j c h1 h2 => ?_, fun i c h => ?_, fun _ _ _ => rfl, Nat.le_refl _, rfl, rfl, rfl⟩
    · obtain ⟨p, hp, rfl, h3⟩ := hown i c h1
      obtain ⟨q, hq, rfl, h4⟩ := hown j c h2
      rw [flatMap_inj (by rw [hbsq]; exact hbn) hp hq h3 h4]
    · obtain ⟨p, hp, rfl, h3⟩ := hown i c h
      have : c ∈ bs := by rw [← hbsq]; exact List.mem_flatMap.2 ⟨p, hp, h3⟩
      exact ⟨.inr this, (hbr c this).1⟩
  obtain ⟨hrel', hlen⟩ := unfl_sound hun hfv hrel
  refine runF_sound hTT hΦ hinl hm hf hr (F := F) (k := k0) hk0 rfl hrel' (by rw [hlen]; exact hl) ?_
  intro v av k' H' hkx hS' hk' hle hv
  unfold kT at hkx
  split at hkx
  case h_2 => cases hkx
  rename_i ds' hkx'
  replace hkx : kExt s bxs av H' = some (s.out ds) := by rw [← hout ds' hkx]; exact hkx'
  unfold kExt at hkx
  split at hkx
  case h_2 => cases hkx
  rename_i l hl'
  split at hkx
  case h_2 => cases hkx
  rename_i z b hz hb
  obtain ⟨z1, ids, tk⟩ := z
  obtain ⟨b1, btk⟩ := b
  dsimp only at hkx
  cases hc : (nodupN ids && disjN ids (tk ++ btk)) with
  | false => rw [hc] at hkx; cases hkx
  | true =>
    rw [hc] at hkx
    simp only [cond_true, Option.some.injEq] at hkx
    simp only [Bool.and_eq_true] at hc
    obtain ⟨hnd, hdis⟩ := hc
    have hnd := nodupN_nodup hnd
    obtain ⟨vals, hvals, hvrel⟩ : ∃ vals, v = tupValue vals ∧ relVs F k' l vals := by
      cases av with
      | w v1 =>
        simp only [AV.list, Option.some.injEq] at hl'
        subst hl'
        exact ⟨[v], rfl, v, [], rfl, hv, rfl⟩
      | tup vs =>
        obtain ⟨xs, rfl, hx⟩ := hv
        cases vs with
        | nil =>
          simp only [AV.list, Option.some.injEq] at hl'
          subst hl'
          simp only [relVs] at hx
          subst hx
          exact ⟨[], rfl, rfl⟩
        | cons v1 vs =>
          cases vs with
          | nil => simp [AV.list] at hl'
          | cons v2 vs =>
            simp only [AV.list, Option.some.injEq] at hl'
            subst hl'
            have hx0 := hx
            obtain ⟨x1, xs1, rfl, _, hx⟩ := hx
            obtain ⟨x2, xs2, rfl, _, hx⟩ := hx
            exact ⟨_, rfl, hx0⟩
    obtain ⟨⟨harr, hta⟩, hres⟩ := ext1_sound hk' hS' hz hvrel
    obtain ⟨htb, hin', hbox⟩ := extB_sound hk' hS' g6 hb
    have hblk : ∀ c, c ∈ blkD k' ids ↔ ∃ id ∈ ids, k'.own id c := by
      intro c
      unfold blkD
      rw [List.mem_flatMap]
      constructor
      · rintro ⟨id, hi, h1⟩
        obtain ⟨e, r, xs, o, h2, _⟩ := harr id hi
        exact ⟨id, hi, (ownL_mem h2 c).2 h1⟩
      · rintro ⟨id, hi, h1⟩
        obtain ⟨e, r, xs, o, h2, _⟩ := harr id hi
        exact ⟨id, hi, (ownL_mem h2 c).1 h1⟩
    have hbk : ∀ p ∈ bxs, ∀ c, c ∈ bkK k' p ↔ (isMv p.2 = false ∧ k'.own p.1 c) := by
      intro p hp c
      obtain ⟨pi, pd⟩ := p
      cases pd with
      | mv e r o => simp [bkK, isMv]
      | bx t =>
        have := own_bsK (hin' _ hp rfl) c
        constructor
        · exact fun h => ⟨rfl, this.2 h⟩
        · exact fun h => this.1 h.2
      | ow e r o =>
        have := own_bsK (hin' _ hp rfl) c
        constructor
        · exact fun h => ⟨rfl, this.2 h⟩
        · exact fun h => this.1 h.2
    have hbsm : ∀ c, c ∈ bxs.flatMap (bkK k') ↔ ∃ p ∈ bxs, isMv p.2 = false ∧ k'.own p.1 c := by
      intro c
      rw [List.mem_flatMap]
      constructor
      · rintro ⟨p, hp, h1⟩
        exact ⟨p, hp, (hbk p hp c).1 h1⟩
      · rintro ⟨p, hp, h1⟩
        exact ⟨p, hp, (hbk p hp c).2 h1⟩
    have hrng : ∀ id c, k'.own id c → (w.heap.size ≤ c ∨ c ∈ bs) ∧ c < k'.w.heap.size := fun id c h => hk'.rng id c h
    -- a result's array, or one that is taken, is none that comes back
    have hne : ∀ id, (∃ e r xs d, k'.h id = some (.arr e r xs d) ∧ isPar id = false) → ∀ p ∈ bxs, isMv p.2 = false → id ≠ p.1 := by
      rintro id ⟨e, r, xs, d, h1, h2⟩ p hp hm rfl
      have h3 := hin' p hp hm
      obtain ⟨pi, pd⟩ := p
      cases pd with
      | bx t =>
        obtain ⟨cs, h4⟩ := h3
        dsimp only at h1 h4
        rw [h1] at h4
        cases h4
      | mv e' r' o' => cases hm
      | ow e' r' o' =>
        rcases g4 _ hp with ⟨j, _, _, _, h4⟩ | ⟨j, _, h4, h5, _⟩ | ⟨j, _, _, _, h4⟩
        · cases h4
        · have := parId_par (i := j) (Nat.ble_eq_true_of_le (by omega))
          dsimp only at h2 h5
          rw [← h5, h2] at this
          cases this
        · cases h4
    have harr' : ∀ id ∈ ids, ∃ e r xs d, k'.h id = some (.arr e r xs d) ∧ isPar id = false := fun id hi => by
      obtain ⟨e, r, xs, o, h1, h2⟩ := harr id hi
      exact ⟨e, r, xs, _, h1, h2⟩
    have hokT : ∀ (tk' : List Nat), (∀ i ∈ tk', i ∈ tk ++ btk) → ∀ c, k'.okT F tk' c → ok c ∨ ((w.heap.size ≤ c ∨ c ∈ bs) ∧ c < k'.w.heap.size ∧ c ∉ blkD k' ids ++ bxs.flatMap (bkK k')) := by
      rintro tk' hsub c (hc | ⟨id, hi, ho⟩)
      · rcases hc with hc | ⟨h1, h2, h3⟩
        · exact .inl hc
        · refine .inr ⟨h1, h2, fun hm => ?_⟩
          rcases List.mem_append.1 hm with hm | hm
          · obtain ⟨id, _, ho⟩ := (hblk c).1 hm
            exact h3 id ho
          · obtain ⟨p, _, _, ho⟩ := (hbsm c).1 hm
            exact h3 _ ho
      · have ha : ∃ e r xs d, k'.h id = some (.arr e r xs d) ∧ isPar id = false := (List.mem_append.1 (hsub id hi)).elim (hta id) (htb id)
        have hrg := hrng id c ho
        refine .inr ⟨hrg.1, hrg.2, fun hm => ?_⟩
        rcases List.mem_append.1 hm with hm | hm
        · obtain ⟨id2, hi2, ho2⟩ := (hblk c).1 hm
          obtain rfl := hk'.inj id2 id c ho2 ho
          exact disjN_not hdis hi2 (hsub _ hi)
        · obtain ⟨p, hp, hmv, ho2⟩ := (hbsm c).1 hm
          exact hne id ha p hp hmv (hk'.inj id p.1 c ho ho2)
    have hhv' : bxs.map (hvK k') = hv0 := by
      rw [← hhv]
      refine List.map_congr_left fun p hp => ?_
      have h1 := hin p hp
      have h2 := hin' p hp
      obtain ⟨pi, pd⟩ := p
      cases pd with
      | mv e r o => rfl
      | bx t =>
        obtain ⟨cs, h3⟩ := h1
        show HV.bx (k'.μ pi) = HV.bx (k0.μ pi)
        rw [(hle.box pi (entOf_mem hp rfl) cs h3).2]
      | ow e r o =>
        obtain ⟨xs, h3⟩ := h1
        obtain ⟨xs', h4⟩ := h2 rfl
        show HV.ow (k'.ν pi) = HV.ow (k0.ν pi)
        rcases hle.arr pi (entOf_mem hp rfl) _ _ _ _ h3 with ⟨_, _, h5, _, h6⟩ | ⟨_, _, h5, _⟩ | h5
        · rw [h6]
        · dsimp only at h4
          rw [h4] at h5; cases h5
        · dsimp only at h4
          rw [h4] at h5; cases h5
    have hbox := hbox (ok' := fun c => ok c ∨ ((w.heap.size ≤ c ∨ c ∈ bs) ∧ c < k'.w.heap.size ∧ c ∉ blkD k' ids ++ bxs.flatMap (bkK k'))) (hokT btk fun i hi => List.mem_append.2 (.inr hi))
    rw [hhv'] at hbox
    have hres := hres (ok' := fun c => ok c ∨ ((w.heap.size ≤ c ∨ c ∈ bs) ∧ c < k'.w.heap.size ∧ c ∉ blkD k' ids ++ bxs.flatMap (bkK k'))) (hokT tk fun i hi => List.mem_append.2 (.inl hi)) b1
    rw [hkx] at hres
    have hbnd : (blkD k' ids).Nodup := by
      have : ∀ {l : List Nat}, l.Nodup → (∀ id ∈ l, ∃ e r xs o, k'.h id = some (.arr e r xs (dpO o)) ∧ isPar id = false) → (blkD k' l).Nodup := by
        intro l
        induction l with
        | nil => exact fun _ _ => List.nodup_nil
        | cons i l ih =>
          intro h1 h2
          obtain ⟨h3, h4⟩ := List.nodup_cons.1 h1
          obtain ⟨e1, r1, xs1, o1, h7, _⟩ := h2 i (by simp)
          have e : blkD k' (i :: l) = ownL k' i ++ blkD k' l := by simp [blkD]
          rw [e]
          refine List.nodup_append.2 ⟨ownL_nodup hk' h7, ih h4 fun id hi => h2 id (by simp [hi]), fun c h5 c' h6 hcc => ?_⟩
          subst hcc
          unfold blkD at h6
          obtain ⟨j, hj, h8⟩ := List.mem_flatMap.1 h6
          obtain ⟨e2, r2, xs2, o2, h9, _⟩ := h2 j (by simp [hj])
          exact h3 (hk'.inj i j c ((ownL_mem h7 c).2 h5) ((ownL_mem h9 c).2 h8) ▸ hj)
      exact this hnd harr
    have hbxn : (bxs.flatMap (bkK k')).Nodup := by
      have : ∀ {bx : List (Nat × Hd)}, (∀ p ∈ bx, isMv p.2 = false → HdIn k' p) → (∀ p ∈ bx, ∀ c, c ∈ bkK k' p ↔ (isMv p.2 = false ∧ k'.own p.1 c)) → (bx.map (·.1)).Nodup → (bx.flatMap (bkK k')).Nodup := by
        intro bx
        induction bx with
        | nil => exact fun _ _ _ => List.nodup_nil
        | cons p bx ih =>
          intro h1 h0 h2
          simp only [List.map_cons, List.nodup_cons] at h2
          rw [List.flatMap_cons]
          refine List.nodup_append.2 ⟨?_, ih (fun q hq => h1 q (by simp [hq])) (fun q hq => h0 q (by simp [hq])) h2.2, fun c hc c' hc' hcc => ?_⟩
          · obtain ⟨pi, pd⟩ := p
            cases pd with
            | mv e r o => exact List.nodup_nil
            | bx t => exact bsK_nodup hk' (h1 _ List.mem_cons_self rfl)
            | ow e r o => exact bsK_nodup hk' (h1 _ List.mem_cons_self rfl)
          · subst hcc
            obtain ⟨q, hq, h3⟩ := List.mem_flatMap.1 hc'
            have h4 := ((h0 p (by simp) c).1 hc).2
            have h5 := ((h0 q (by simp [hq]) c).1 h3).2
            exact h2.1 (List.mem_map.2 ⟨q, hq, hk'.inj q.1 p.1 _ h5 h4⟩)
      exact this hin' hbk g5
    refine ⟨vals, b1, blkD k' ids, bxs.flatMap (bkK k'), by rw [hvals], hle.size, fun c hc hcb => hk'.frame c hc hcb, hk'.os, hk'.tape, hk'.output, List.nodup_append.2 ⟨hbnd, hbxn, fun c h1 c' h2 hcc => ?_⟩, fun c hc => ?_, fun c hc => ?_, hres, hbox⟩
    · subst hcc
      obtain ⟨id, hi, ho⟩ := (hblk c).1 h1
      obtain ⟨p, hp, hm, ho2⟩ := (hbsm c).1 h2
      exact hne id (harr' id hi) p hp hm (hk'.inj id p.1 c ho ho2)
    · obtain ⟨id, hi, ho⟩ := (hblk c).1 hc
      have := hrng id c ho
      exact this.1.elim (fun h => .inr ⟨h, this.2⟩) .inl
    · obtain ⟨p, hp, _, ho⟩ := (hbsm c).1 hc
      have := hrng p.1 c ho
      exact this.1.elim (fun h => .inr ⟨h, this.2⟩) .inl
end mem
end Go.MC

set_option linter.unusedVariables false
set_option linter.unusedSimpArgs false
namespace Go.MC
open Go.RowKit
def bodyOf : Option Code → Code
  | some c => c
  | none => .skip
def hasLp : Code → Nat → Nat → Bool
  | .seq a b, cur, t => hasLp a cur t || hasLp b cur t
  | .cond _ a b, cur, t => hasLp a cur t || hasLp b cur t
  | .block id c, _, t => hasLp c id t
  | .loop _, cur, t => Nat.beq cur t
  | _, _, _ => false
def lpIn : Code → Nat → Nat → Code
  | .seq a b, cur, t => bif hasLp a cur t then lpIn a cur t else lpIn b cur t
  | .cond _ a b, cur, t => bif hasLp a cur t then lpIn a cur t else lpIn b cur t
  | .block id c, _, t => lpIn c id t
  | .loop c, _, _ => c
  | _, _, _ => .skip
noncomputable def contOf (E : Env) {ρ : Type} : Code → Nat → Nat → (X → St → Option ρ) → X → St → Option ρ
  | .seq a b, cur, t, k => bif hasLp a cur t then contOf E a cur t (kSeq (code E b cur) k) else contOf E b cur t k
  | .cond _ a b, cur, t, k => bif hasLp a cur t then contOf E a cur t k else contOf E b cur t k
  | .block id c, _, t, k => contOf E c id t (kBlk id k)
  | _, _, _, k => k
end Go.MC

set_option linter.unusedVariables false
set_option linter.unusedSimpArgs false
namespace Go.MC
open Go.RowKit
def zeroB : List C → List Value → Bool
  | [], [] => true
  | .u :: cs, _ :: vs => zeroB cs vs
  | .emp :: cs, .slice none 0 0 :: vs => zeroB cs vs
  | .v .bool b :: cs, .bool c :: vs => decide (b = c) && zeroB cs vs
  | .v (.int k) n :: cs, .int j m :: vs => decide (j = k) && (decide (m = n) && (okInt k n && zeroB cs vs))
  | .v .str s :: cs, .string t :: vs => decide (t.data.toList = s) && (Nat.ble s.length lim && zeroB cs vs)
  | _, _ => false
theorem zeroB_rel {F : Fx} {k : K} : ∀ {cs : List C} {vs : List Value}, zeroB cs vs = true → relCs F k cs vs := by
  intro cs vs h
  induction cs generalizing vs with
  | nil =>
    cases vs with
    | nil => rfl
    | cons v vs => simp [zeroB] at h
  | cons c cs ih =>
    unfold zeroB at h
    split at h
    · rename_i h1; cases h1
    · rename_i h1; cases h1
      exact ⟨_, _, rfl, trivial, ih h⟩
    · rename_i h1; cases h1
      exact ⟨_, _, rfl, rfl, ih h⟩
    · rename_i b _ c _ h1; cases h1
      simp only [Bool.and_eq_true, decide_eq_true_eq] at h
      obtain ⟨rfl, h⟩ := h
      exact ⟨_, _, rfl, rfl, ih h⟩
    · rename_i h1; cases h1
      simp only [Bool.and_eq_true, decide_eq_true_eq] at h
      obtain ⟨rfl, rfl, h2, h⟩ := h
      refine ⟨_, _, rfl, ⟨rfl, ?_⟩, ih h⟩
      simpa [okInt, IntKind.has] using h2
    · rename_i h1; cases h1
      simp only [Bool.and_eq_true, decide_eq_true_eq] at h
      obtain ⟨rfl, h2, h⟩ := h
      exact ⟨_, _, rfl, ⟨rfl, Nat.le_of_ble_eq_true h2⟩, ih h⟩
    · cases h
def rdZ : Ty → List Value → Option (List Value)
  | .bool, .bool false :: vs => some vs
  | .int k, .int j m :: vs => bif decide (j = k) && decide (m = 0) then some vs else none
  | .str, .string s :: vs => bif decide (s.data.toList = []) then some vs else none
  | .slice _, .slice none 0 0 :: vs => some vs
  | .pair a b, vs => match rdZ a vs with
    | some vs' => rdZ b vs'
    | none => none
  | _, _ => none
theorem rdZ_rd {w : World} {ok : Nat → Prop} : ∀ {t : Ty} {vs rest : List Value}, rdZ t vs = some rest → ∃ u, vs = u ++ rest ∧ Rd w ok t t.dflt u
  | .bool, vs, rest, h => by
    unfold rdZ at h
    split at h
    all_goals first | (cases h; done) | skip
    · rename_i h1; cases h; exact ⟨[_], rfl, rfl⟩
    all_goals (rename_i h1; cases h1)
  | .int k, vs, rest, h => by
    unfold rdZ at h
    split at h
    all_goals first | (cases h; done) | skip
    all_goals rename_i h1
    all_goals first | (cases h1; done) | skip
    injection h1 with h1
    subst h1
    rename_i j m vs
    cases hb : (decide (j = k) && decide (m = 0)) with
    | false => rw [hb] at h; cases h
    | true =>
      rw [hb] at h
      simp only [Bool.and_eq_true, decide_eq_true_eq] at hb
      obtain ⟨rfl, rfl⟩ := hb
      simp only [cond_true, Option.some.injEq] at h
      subst h
      exact ⟨[_], rfl, rfl, has_zero _⟩
  | .str, vs, rest, h => by
    unfold rdZ at h
    split at h
    all_goals first | (cases h; done) | skip
    all_goals rename_i h1
    all_goals first | (cases h1; done) | skip
    rename_i s vs
    cases hb : decide (s.data.toList = []) with
    | false => rw [hb] at h; cases h
    | true =>
      rw [hb] at h
      have hb := of_decide_eq_true hb
      simp only [cond_true, Option.some.injEq] at h
      subst h
      refine ⟨[_], rfl, ?_, Nat.zero_le _⟩
      obtain ⟨⟨l⟩⟩ := s
      have hb : l = [] := hb
      subst hb
      rfl
  | .slice r, vs, rest, h => by
    unfold rdZ at h
    split at h
    all_goals first | (cases h; done) | skip
    all_goals rename_i h1
    all_goals first | (cases h1; done) | skip
    all_goals first | (cases h; exact ⟨[_], rfl, Rd.nil _ _ _⟩) | skip
  | .pair a b, vs, rest, h => by
    simp only [rdZ] at h
    split at h
    · rename_i vs' h1
      obtain ⟨u, rfl, h2⟩ := rdZ_rd (w := w) (ok := ok) h1
      obtain ⟨v, rfl, h3⟩ := rdZ_rd (w := w) (ok := ok) h
      exact ⟨u ++ v, by simp, u, v, rfl, h2, h3⟩
    · cases h
theorem rdZ_own {w : World} {ok : Nat → Prop} {base : Nat} : ∀ {t : Ty} {vs rest : List Value} {ns : List Nat}, rdZ t vs = some rest → nsl t ≤ ns.length → ∃ u, vs = u ++ rest ∧ OwnRd w ok base t t.dflt ns u (ns.drop (nsl t)) []
  | .bool, vs, rest, ns, h, _ => by
    obtain ⟨u, h1, h2⟩ := rdZ_rd (w := w) (ok := ok) h
    exact ⟨u, h1, rfl, rfl, h2⟩
  | .int k, vs, rest, ns, h, _ => by
    obtain ⟨u, h1, h2⟩ := rdZ_rd (w := w) (ok := ok) h
    exact ⟨u, h1, rfl, rfl, h2⟩
  | .str, vs, rest, ns, h, _ => by
    obtain ⟨u, h1, h2⟩ := rdZ_rd (w := w) (ok := ok) h
    exact ⟨u, h1, rfl, rfl, h2⟩
  | .slice r, vs, rest, ns, h, hn => by
    cases ns with
    | nil => simp [nsl] at hn
    | cons e ns =>
      unfold rdZ at h
      split at h
      all_goals first | (cases h; done) | skip
      all_goals rename_i h1
      all_goals first | (cases h1; done) | skip
      all_goals first | (cases h; exact ⟨[_], rfl, e, _, [], rfl, rfl, .mt none, rfl, Nat.zero_le _, rfl⟩) | skip
  | .pair a b, vs, rest, ns, h, hn => by
    simp only [nsl] at hn
    simp only [rdZ] at h
    split at h
    · rename_i vs' h1
      obtain ⟨u, rfl, h2⟩ := rdZ_own (w := w) (ok := ok) (base := base) (ns := ns) h1 (by omega)
      obtain ⟨v, rfl, h3⟩ := rdZ_own (w := w) (ok := ok) (base := base) (ns := ns.drop (nsl a)) h (by rw [List.length_drop]; omega)
      rw [List.drop_drop] at h3
      exact ⟨u ++ v, by simp, u, v, _, [], [], rfl, h2, h3, rfl⟩
    · cases h
def tyB : Ty → TypeDesc → Nat → Bool
  | .bool, .bool, _ => true
  | .int k, .int j, _ => decide (j = k)
  | .str, .string, _ => true
  | .slice _, .slice e, n => Nat.beq e n
  | .pair _ _, _, _ => true
  | _, _, _ => false
def fldB (P : Program) (f : Nat × Nat) : Bool := match P.info? f.1 with
  | some ti => Nat.ble 1 ti.size
  | none => false
def isStr : Option TypeDesc → Bool
  | some .string => true
  | _ => false
def isBool : Option TypeDesc → Bool
  | some .bool => true
  | _ => false
def isInt (k : IntKind) : Option TypeDesc → Bool
  | some (.int j) => decide (j = k)
  | _ => false
def eqsB (P : Program) : Nat → List Field → List Ty → Bool
  | _, [], [] => true
  | i, f :: fs, t :: ts => (f.name != "_") && (Nat.beq f.offset i && ((match t with
    | .bool => isBool (P.underlying f.type)
    | .str => isStr (P.underlying f.type)
    | .int k => isInt k (P.underlying f.type)
    | _ => false) && eqsB P (i + 1) fs ts))
  | _, _, _ => false
def nsB (td : TD) : Bool := match td.ns with
  | [] => true
  | n :: ns => td.dat && Nat.beq (nsl td.ty) (n :: ns).length
def tdB (P : Program) (t : Nat) (td : TD) : Bool := match P.info? t, P.underlying t with
  | some ti, some d => (match ti.zero with
    | some z => Nat.beq ti.size td.sz && (Nat.beq ti.bytes td.bytes && (Nat.beq z.cells.size td.sz && (zeroB td.zero z.cells.toList && ((bif td.dat then (match rdZ td.ty z.cells.toList with
      | some [] => true
      | _ => false) else true) && nsB td))))
    | none => false) && (tyB td.ty d td.elem && (Nat.ble 1 td.sz && ((match d with
    | .struct fs => td.agg && decide (fs.toList.map (fun f => (f.type, f.offset)) = td.flds)
    | .array _ _ => false
    | _ => !td.agg && (Nat.beq td.sz 1 && td.flds.isEmpty)) && (td.flds.all (fldB P) && (bif td.eqs.isEmpty then true else match d with
    | .struct fs => !P.stoodInHeld t && (!P.eqGuardType P.depth t && eqsB P 0 fs.toList td.eqs)
    | _ => false)))))
  | _, _ => false
theorem eqsB_ok {P : Program} : ∀ {fs : List Field} {ts : List Ty} {i : Nat}, eqsB P i fs ts = true → fs.length = ts.length ∧ ∀ (j : Nat) (f : Field), fs[j]? = some f → f.name ≠ "_" ∧ f.offset = i + j ∧ ((ts[j]? = some .bool ∧ P.underlying f.type = some .bool) ∨ (ts[j]? = some .str ∧ P.underlying f.type = some .string) ∨ ∃ k, ts[j]? = some (.int k) ∧ P.underlying f.type = some (.int k))
  | [], [], i, h => ⟨rfl, fun j f hj => by simp at hj⟩
  | [], _ :: _, i, h => by simp [eqsB] at h
  | _ :: _, [], i, h => by simp [eqsB] at h
  | f :: fs, t :: ts, i, h => by
    simp only [eqsB, Bool.and_eq_true] at h
    obtain ⟨h1, h2, h3, h4⟩ := h
    obtain ⟨h5, h6⟩ := eqsB_ok h4
    refine ⟨by simp [h5], fun j g hj => ?_⟩
    cases j with
    | zero =>
      simp only [List.getElem?_cons_zero, Option.some.injEq] at hj
      subst hj
      refine ⟨by simpa using h1, by simpa using Nat.eq_of_beq_eq_true h2, ?_⟩
      cases t with
      | bool =>
        refine .inl ⟨rfl, ?_⟩
        simp only [isBool] at h3
        split at h3
        · assumption
        · cases h3
      | str =>
        refine .inr (.inl ⟨rfl, ?_⟩)
        simp only [isStr] at h3
        split at h3
        · assumption
        · cases h3
      | int k =>
        refine .inr (.inr ⟨k, rfl, ?_⟩)
        simp only [isInt] at h3
        split at h3
        · rename_i j hj
          rw [hj, of_decide_eq_true h3]
        · cases h3
      | slice r => cases h3
      | pair a b => cases h3
    | succ j =>
      have := h6 j g (by simpa using hj)
      rw [show i + (j + 1) = i + 1 + j by omega]
      simpa using this
theorem tdB_ok {P : Program} {t : Nat} {td : TD} (h : tdB P t td = true) : TDok P t td := by
  unfold tdB at h
  split at h
  case h_2 => cases h
  rename_i ti d hi hu
  simp only [Bool.and_eq_true] at h
  obtain ⟨hz, hty, hp, ha, hf, he⟩ := h
  split at hz
  case h_2 => cases hz
  rename_i z hzz
  simp only [Bool.and_eq_true] at hz
  obtain ⟨h1, h2, h3, h4, h5, hns⟩ := hz
  refine ⟨⟨ti, z, hi, Nat.eq_of_beq_eq_true h1, Nat.eq_of_beq_eq_true h2, hzz, Nat.eq_of_beq_eq_true h3, fun F k => zeroB_rel h4, fun hd w ok => ?_⟩, fun hg => ?_, fun hg => ?_, fun r hr => ?_, fun k hr => ?_, fun hr => ?_, fun hr => ?_, fun f hm => ?_, Nat.le_of_ble_eq_true hp, fun hne => ?_, fun hne => ?_⟩
  · rw [hd] at h5
    simp only [cond_true] at h5
    split at h5
    · rename_i hr
      obtain ⟨u, h6, h7⟩ := rdZ_rd (w := w) (ok := ok) hr
      rw [List.append_nil] at h6
      rw [h6]
      exact h7
    · cases h5
  · cases d with
    | struct fs =>
      simp only [Bool.and_eq_true, decide_eq_true_eq] at ha
      exact ⟨fs, hu, ha.2⟩
    | array n e => cases ha
    | _ => rw [hg] at ha; cases ha
  · cases d with
    | struct fs => rw [hg] at ha; cases ha
    | array n e => cases ha
    | _ =>
      simp only [Bool.and_eq_true] at ha
      exact ⟨Nat.eq_of_beq_eq_true ha.2.1, by simpa using ha.2.2, _, hu, fun _ h => by (first | cases h | exact TypeDesc.noConfusion h), fun _ _ h => by (first | cases h | exact TypeDesc.noConfusion h)⟩
  · rw [hr] at hty
    cases d with
    | slice e => rw [hu, Nat.eq_of_beq_eq_true hty]
    | _ => cases hty
  · rw [hr] at hty
    cases d with
    | int j => rw [hu, of_decide_eq_true hty]
    | _ => cases hty
  · rw [hr] at hty
    cases d with
    | string => exact hu
    | _ => cases hty
  · rw [hr] at hty
    cases d with
    | bool => exact hu
    | _ => cases hty
  · have := List.all_eq_true.1 hf f hm
    unfold fldB at this
    split at this
    · rename_i ti' h6
      exact ⟨ti', h6, Nat.le_of_ble_eq_true this⟩
    · cases this
  · unfold nsB at hns
    split at hns
    · rename_i h; exact absurd h hne
    · rename_i n ns hn
      simp only [Bool.and_eq_true] at hns
      obtain ⟨hd, hl⟩ := hns
      have hl := Nat.eq_of_beq_eq_true hl
      rw [hd] at h5
      simp only [cond_true] at h5
      split at h5
      · rename_i hr
        refine ⟨ti, z, hi, hzz, fun w ok base => ?_⟩
        obtain ⟨u, h6, h7⟩ := rdZ_own (w := w) (ok := ok) (base := base) (ns := td.ns) hr (by rw [hn]; exact Nat.le_of_eq hl)
        rw [List.append_nil] at h6
        rw [List.drop_of_length_le (by rw [hn]; exact Nat.le_of_eq hl.symm)] at h7
        rw [h6]
        exact h7
      · cases h5
  · cases hb : td.eqs.isEmpty with
    | true => exact absurd (by simpa using hb) hne
    | false =>
      rw [hb] at he
      cases d with
      | struct fs =>
        simp only [cond_false, Bool.and_eq_true, Bool.not_eq_true'] at he
        obtain ⟨h6, h7⟩ := eqsB_ok he.2.2
        exact ⟨fs, hu, he.1, he.2.1, by simpa using h6, fun j f hj => by simpa using h7 j f hj⟩
      | _ => cases he
def tabOf : List (Nat × TD) → Nat → Option TD
  | [], _ => none
  | (i, td) :: l, t => bif Nat.beq i t then some td else tabOf l t
theorem tab_ok {P : Program} : ∀ {l : List (Nat × TD)}, (l.all fun p => tdB P p.1 p.2) = true → TTok P (tabOf l)
  | [], _, t, td, h => by cases h
  | (i, d) :: l, hl, t, td, h => by
    simp only [List.all_cons, Bool.and_eq_true] at hl
    simp only [tabOf] at h
    cases hb : Nat.beq i t with
    | true =>
      rw [hb] at h
      have := Nat.eq_of_beq_eq_true hb
      subst this
      simp only [cond_true, Option.some.injEq] at h
      subst h
      exact tdB_ok hl.1
    | false =>
      rw [hb] at h
      exact tab_ok (by simpa using hl.2) t td h
end Go.MC

set_option linter.unusedVariables false
set_option linter.unusedSimpArgs false
namespace Go.MC
open Go.RowKit
def walkL {α σ β : Type} (f : Nat → σ → α → Sum σ β) : Nat → List α → σ → Sum σ β
  | _, [], st => .inl st
  | i, x :: xs, st => match f i st x with
    | .inl st' => walkL f (i + 1) xs st'
    | .inr b => .inr b
end Go.MC

set_option linter.unusedVariables false
set_option linter.unusedSimpArgs false
namespace Go.MC
open Go.RowKit
def annAt (f : FI) (b : Nat) : Ann := match f.an b with
  | some a => a
  | none => ⟨⟨[], [], []⟩, [], ⟨[], [], []⟩⟩
def envOf (TT : Nat → Option TD) (Φ : Nat → Option Summ) (inl : (ρ : Type) → Nat → List AV → List (Nat × Ob) → (AV → List (Nat × Ob) → Option ρ) → Option ρ) (N : Nat) (f : FI) (ent : List Nat) : Env := { TT := TT, Φ := Φ, inl := inl, an := f.an, ent := ent, N := N }
end Go.MC

set_option linter.unusedVariables false
set_option linter.unusedSimpArgs false
namespace Go.MC
open Go.RowKit
def lp {F : Type} (z : F) (rd : F → F) : Nat → F
  | 0 => z
  | n + 1 => rd (lp z rd n)
theorem lp_all {F : Type} {z : F} {rd : F → F} {g : Nat → F} (h0 : g 0 = z) (h : ∀ n, g (n + 1) = rd (g n)) : ∀ n, g n = lp z rd n
  | 0 => h0
  | n + 1 => (h n).trans (congrArg rd (lp_all h0 h n))
def iS {α : Type} (o : Option α) : Bool := o.isSome
def gS {α : Type} (o : Option α) (d : α) : α := o.getD d
def ob {α ρ : Type} (o : Option α) (d : α) (B : α → Option ρ) : Option ρ := bif iS o then B (gS o d) else none
def Fn : List Ty → Type → Type
  | [], ρ => ρ
  | t :: ts, ρ => t.den → Fn ts ρ
def appD {ρ : Type} : (ts : List Ty) → Fn ts ρ → List Dv → Option ρ
  | [], f, [] => some f
  | [], _, _ :: _ => none
  | _ :: _, _, [] => none
  | t :: ts, f, d :: ds => match castT t d.1 d.2 with
    | some x => appD ts (f x) ds
    | none => none
def FnEq {ρ : Type} : (ts : List Ty) → Fn ts ρ → (List Dv → ρ) → Prop
  | [], f, g => g [] = f
  | t :: ts, f, g => ∀ x : t.den, FnEq ts (f x) fun ds => g (⟨t, x⟩ :: ds)
theorem FnEq.app {ρ : Type} : ∀ {ts : List Ty} {f : Fn ts ρ} {g : List Dv → ρ}, FnEq ts f g → ∀ {ds : List Dv} {o : ρ}, appD ts f ds = some o → g ds = o
  | [], f, g, h, [], o, ho => by
    have ho : some f = some o := ho
    cases ho
    exact h
  | [], f, g, h, _ :: _, o, ho => by cases ho
  | _ :: _, f, g, h, [], o, ho => by cases ho
  | t :: ts, f, g, h, ⟨t', x⟩ :: ds, o, ho => by
    simp only [appD] at ho
    split at ho
    · rename_i y hy
      obtain ⟨he, rfl⟩ := castT_eq hy
      subst he
      exact FnEq.app (h x) ho
    · cases ho
@[reducible] def tupD : List Ty → Type
  | [] => Unit
  | [t] => t.den
  | t :: u :: ts => t.den × tupD (u :: ts)
def toDs : (ts : List Ty) → tupD ts → List Dv
  | [], _ => []
  | [t], x => [⟨t, x⟩]
  | t :: u :: ts, x => ⟨t, x.1⟩ :: toDs (u :: ts) x.2
def ofDs : (ts : List Ty) → List Dv → Option (tupD ts)
  | [], [] => some ()
  | [], _ :: _ => none
  | _ :: _, [] => none
  | [t], d :: ds => match ds with
    | [] => castT t d.1 d.2
    | _ :: _ => none
  | t :: u :: ts, d :: ds => match castT t d.1 d.2 with
    | some x => match ofDs (u :: ts) ds with
      | some y => some (x, y)
      | none => none
    | none => none
theorem ofDs_to : ∀ {ts : List Ty} {ds : List Dv} {r : tupD ts}, ofDs ts ds = some r → ds = toDs ts r
  | [], [], _, _ => rfl
  | [], _ :: _, _, h => by cases h
  | [t], [], _, h => by cases h
  | [t], [⟨t', x⟩], r, h => by
    obtain ⟨he, rfl⟩ := castT_eq (show castT t t' x = some r from h)
    subst he
    rfl
  | [t], _ :: _ :: _, _, h => by cases h
  | t :: u :: ts, [], _, h => by cases h
  | t :: u :: ts, ⟨t', x⟩ :: ds, r, h => by
    simp only [ofDs] at h
    split at h
    · rename_i y hy
      split at h
      · rename_i z hz
        simp only [Option.some.injEq] at h
        subst h
        obtain ⟨he, rfl⟩ := castT_eq hy
        subst he
        rw [ofDs_to hz]
        rfl
      · cases h
    · cases h
def dfD : (ts : List Ty) → tupD ts
  | [] => ()
  | [t] => t.dflt
  | t :: u :: ts => (t.dflt, dfD (u :: ts))
def SP.ty : SP → Ty
  | .dd t => t
  | .ow _ r _ => .slice r
  | .mv _ r _ => .slice r
def psTys : List PS → List Ty
  | [] => []
  | .d t _ :: ps => t :: psTys ps
  | .bx t :: ps => t :: psTys ps
  | .ow _ r _ :: ps => .slice r :: psTys ps
  | .mv _ r _ :: ps => .slice r :: psTys ps
  | .sp l :: ps => l.map SP.ty ++ psTys ps
  | .cl _ ts :: ps => ts ++ psTys ps
def sigOf (ps : List PS) (fz : Bool) (rs : List RS) : Summ := ⟨ps, fz, fun _ => true, fun ds => ds, rs⟩
def summOf (ps : List PS) (fz : Bool) (rs : List RS) (ts : List Ty) (f : Fn (psTys ps) (Option (tupD ts))) : Summ :=
  ⟨ps, fz, fun ds => match appD (psTys ps) f ds with
    | some o => iS o
    | none => false, fun ds => match appD (psTys ps) f ds with
    | some o => toDs ts (gS o (dfD ts))
    | none => [], rs⟩
def tabS : List (Nat × Summ) → Nat → Option Summ
  | [], _ => none
  | p :: l, i => bif Nat.beq p.1 i then some p.2 else tabS l i
def AllC (P : Program) : List (Nat × Summ) → Prop
  | [] => True
  | p :: l => Contract P (p.1 % 100000) p.2 ∧ AllC P l
theorem allc {P : Program} {k g : Nat} {s : Summ} {l : List (Nat × Summ)} (h : k % 100000 = g) (hc : Contract P g s) (hl : AllC P l) : AllC P ((k, s) :: l) := ⟨by rw [h]; exact hc, hl⟩
theorem AllC.at {P : Program} : ∀ {l : List (Nat × Summ)}, AllC P l → ∀ {i : Nat} {s : Summ}, tabS l i = some s → Contract P (i % 100000) s
  | [], _, _, _, h => by cases h
  | p :: l, ⟨h1, h2⟩, i, s, h => by
    simp only [tabS] at h
    cases hb : Nat.beq p.1 i with
    | true =>
      rw [hb] at h
      simp only [cond_true, Option.some.injEq] at h
      subst h
      rw [← Nat.eq_of_beq_eq_true hb]
      exact h1
    | false => rw [hb] at h; exact h2.at h
theorem keyOf_mod {g : Nat} (hg : g < 100000) : ∀ {vs : List AV}, keyOf g vs % 100000 = g
  | [] => Nat.mod_eq_of_lt hg
  | v :: vs => by
    unfold keyOf
    split
    · omega
    · exact keyOf_mod hg
theorem callOK_list {P : Program} {l : List (Nat × Summ)} (h : AllC P l) : CallOK P (tabS l) := by
  refine callOK_of fun g vs s hs => ?_
  unfold phiK at hs
  cases hb : Nat.blt g 100000 with
  | false => rw [hb] at hs; cases hs
  | true =>
    rw [hb] at hs
    have hg : g < 100000 := Nat.le_of_ble_eq_true hb
    have := h.at hs
    rwa [keyOf_mod hg] at this
abbrev Inl := (ρ : Type) → Nat → List AV → List (Nat × Ob) → (AV → List (Nat × Ob) → Option ρ) → Option ρ
def inl0 : Inl := fun _ _ _ _ _ => none
theorem inl0_ok (P : Program) : InlOK P inl0 := fun h => by cases h
theorem con_of {P : Program} {TT : Nat → Option TD} {Φ : Nat → Option Summ} {inl : Inl} {N : Nat} (hTT : TTok P TT) (hm : P.follows .mixedOrders = true) (hΦ : CallOK P Φ) (hinl : InlOK P inl)
    {g : Nat} {fi : FI} (hf : FnOK P g fi) {ps : List PS} {fz : Bool} {rs : List RS} {ts : List Ty} {f : Fn (psTys ps) (Option (tupD ts))} (hl : ps.length ≤ fi.ntmps)
    (h : FnEq (psTys ps) f (runST (ofDs ts) TT Φ inl N fi (sigOf ps fz rs))) : Contract P g (summOf ps fz rs ts f) := by
  refine contract_of (N := N) hTT hΦ hinl hm hf hl fun ds hd hp => ?_
  have hp' : (match appD (psTys ps) f ds with
    | some o => iS o
    | none => false) = true := hp
  have hout : (summOf ps fz rs ts f).out ds = (match appD (psTys ps) f ds with
    | some o => toDs ts (gS o (dfD ts))
    | none => []) := rfl
  rw [hout]
  cases ha : appD (psTys ps) f ds with
  | none => rw [ha] at hp'; cases hp'
  | some o =>
    rw [ha] at hp'
    cases o with
    | none => cases hp'
    | some r => exact ⟨_, ofDs ts, r, h.app ha, fun ds' hds => ofDs_to hds⟩
end Go.MC

set_option linter.unusedVariables false
set_option linter.unusedSimpArgs false
namespace Go.MC
open Go.RowKit Go.ChangeShapes Go.WideShapes
def fldsOK (P : Program) (rc : Ty → TypeId → Bool) : Ty → List Field → Nat → Bool
  | _, [], _ => false
  | t, [f], off => Nat.beq f.offset off && rc t f.type
  | .pair a b, f :: g :: fs, off => Nat.beq f.offset off && (rc a f.type && fldsOK P rc b (g :: fs) (off + a.sz))
  | _, _ :: _ :: _, _ => false
def tyOK (P : Program) : Nat → Ty → TypeId → Bool
  | 0, _, _ => false
  | n + 1, t, ty => Nat.beq (P.cellsOf ty) t.sz && match t, P.underlying ty with
    | .bool, some .bool => true
    | .int k, some (.int j) => decide (j = k)
    | .str, some .string => true
    | .slice r, some (.slice e) => Nat.ble 1 (P.bytesOf e) && tyOK P n r e
    | .pair a b, some (.struct fs) => fldsOK P (tyOK P n) (.pair a b) fs.toList 0
    | _, _ => false
theorem tyOK_sz {P : Program} {n : Nat} {t : Ty} {ty : TypeId} (h : tyOK P n t ty = true) : P.cellsOf ty = t.sz := by
  cases n with
  | zero => cases h
  | succ n =>
    simp only [tyOK, Bool.and_eq_true] at h
    exact Nat.eq_of_beq_eq_true h.1
theorem choose_list {α : Type} {Q : Nat → α → Prop} : ∀ (n : Nat), (∀ i, i < n → ∃ y, Q i y) → ∃ l : List α, l.length = n ∧ ∀ i y, l[i]? = some y → Q i y
  | 0, _ => ⟨[], rfl, fun i y h => by simp at h⟩
  | n + 1, h => by
    obtain ⟨l, h1, h2⟩ := choose_list n fun i hi => h i (by omega)
    obtain ⟨y, hy⟩ := h n (by omega)
    refine ⟨l ++ [y], by simp [h1], fun i z hz => ?_⟩
    by_cases hi : i < n
    · rw [List.getElem?_append_left (by omega)] at hz
      exact h2 i z hz
    · rw [List.getElem?_append_right (by omega)] at hz
      have : i = n := by
        have := (List.getElem?_eq_some_iff.1 hz).1
        simp at this
        omega
      subst this
      simp [h1] at hz
      subst hz
      exact hy
theorem flds_rd {P : Program} {rc : Ty → TypeId → Bool} {w : World} {ok : Nat → Prop} {cs : List Value} (hsz : ∀ t u, rc t u = true → P.cellsOf u = t.sz) :
    ∀ {fs : List Field} {t : Ty} {off : Nat}, fldsOK P rc t fs off = true → cs.length = off + t.sz →
      (∀ f ∈ fs, ∀ t, rc t f.type = true → ∃ y, Rd w ok t y ((cs.drop f.offset).take (P.cellsOf f.type))) → ∃ y, Rd w ok t y (cs.drop off)
  | [], t, off, h, _, _ => by cases t <;> cases h
  | [f], t, off, h, hl, hf => by
    have h : (Nat.beq f.offset off && rc t f.type) = true := by cases t <;> exact h
    simp only [Bool.and_eq_true] at h
    obtain ⟨y, hy⟩ := hf f (by simp) t h.2
    rw [Nat.eq_of_beq_eq_true h.1, hsz _ _ h.2, List.take_of_length_le (by simp; omega)] at hy
    exact ⟨y, hy⟩
  | f :: g :: fs, t, off, h, hl, hf => by
    cases t with
    | pair a b =>
      simp only [fldsOK, Bool.and_eq_true] at h
      obtain ⟨h1, h2, h3⟩ := h
      obtain ⟨x, hx⟩ := hf f (by simp) a h2
      simp only [Ty.sz] at hl
      obtain ⟨y, hy⟩ := flds_rd hsz h3 (by omega) fun f' hm => hf f' (by simp only [List.mem_cons] at hm ⊢; exact .inr hm)
      rw [Nat.eq_of_beq_eq_true h1, hsz _ _ h2] at hx
      refine ⟨(x, y), _, _, ?_, hx, hy⟩
      rw [← List.drop_drop, List.take_append_drop]
    | _ => cases h
theorem trod_rd {P : Program} {H : Type} {enc : TypeId × Value → H} {W : World} {spare : Nat → Bool} {held : Bool} : ∀ (n : Nat) {t : Ty} {ty : TypeId} {fuel : Nat} {cs : List Value} {x : DataW H × List MemPlace}, tyOK P n t ty = true →
    DataW.trod enc P W 0 spare held fuel ty cs = some x → (∀ m ∈ x.1.weights P ty, m ≤ reachBytes) → ∃ y, Rd W (fun b => b < W.heap.size) t y cs
  | 0, _, _, _, _, _, h, _, _ => by cases h
  | n + 1, t, ty, fuel, cs, x, h, hx, hw => by
    have hlim : reachBytes ≤ lim := by decide
    have hsz := tyOK_sz h
    simp only [tyOK, Bool.and_eq_true] at h
    replace h := h.2
    split at h
    · rename_i hu
      obtain ⟨b, rfl, rfl⟩ := DataW.trod_bool hu hx
      exact ⟨b, rfl⟩
    · rename_i k j hu
      have := of_decide_eq_true h
      subst this
      obtain ⟨m, rfl, rfl, hwf⟩ := DataW.trod_int hu hx
      refine ⟨m, rfl, ?_⟩
      simpa [Lit.wf, IntKind.has] using hwf
    · rename_i hu
      obtain ⟨s, rfl, rfl, _⟩ := DataW.trod_string hu hx
      refine ⟨s.data.toList, rfl, ?_⟩
      exact Nat.le_trans (hw _ (by simp [DataW.weights])) hlim
    · rename_i r e hu
      simp only [Bool.and_eq_true] at h
      obtain ⟨hb, h⟩ := h
      have hesz := tyOK_sz h
      rcases DataW.trod_slice hu hx with ⟨rfl, _⟩ | ⟨a, len, cap, elems, rest, m, _, rfl, rfl, hb0, hl, hm, hlen, hel, hsp, hns⟩
      · exact ⟨[], Rd.nil _ _ _⟩
      · simp only [DataW.weights, hu] at hw
        have hwl : (elems.length + rest.length) * P.bytesOf e ≤ reachBytes := hw _ (by simp)
        have hll : len ≤ lim := by
          have h1 := Nat.le_of_ble_eq_true hb
          have h2 : elems.length + rest.length ≤ (elems.length + rest.length) * P.bytesOf e := Nat.le_mul_of_pos_right _ h1
          omega
        obtain ⟨l, h1, h2⟩ := choose_list (Q := fun i y => ∃ cs, Rd W (fun b => b < W.heap.size) r y cs ∧ ∀ k v, cs[k]? = some v → W.cell? (a.add (i * r.sz + k)) = some v) len (fun i hi => by
          have h3 := hel i hi
          have hi' : i < elems.length := by omega
          rw [List.getElem?_eq_getElem hi', Option.bind_eq_some_iff] at h3
          obtain ⟨cs, h4, h5⟩ := h3
          obtain ⟨y, hy⟩ := trod_rd n h h5 (fun m hm => hw m (by
            refine List.mem_cons_of_mem _ (List.mem_append.2 (.inl ?_))
            have : ∀ {ds : List (DataW H)} {d : DataW H}, d ∈ ds → ∀ m ∈ d.weights P e, m ∈ DataW.weightsAll P e ds := by
              intro ds
              induction ds with
              | nil => intro d hd; simp at hd
              | cons d0 ds ih =>
                intro d hd m hm
                simp only [DataW.weightsAll, List.mem_append]
                rcases List.mem_cons.1 hd with rfl | hd
                · exact .inl hm
                · exact .inr (ih hd m hm)
            exact this (List.mem_map.2 ⟨elems[i], List.getElem_mem hi', rfl⟩) m hm))
          refine ⟨y, cs, hy, fun k v hk => ?_⟩
          unfold World.cells? at h4
          rw [if_pos (Nat.zero_le _)] at h4
          have hkl := (List.getElem?_eq_some_iff.1 hk).1
          have hcl : cs.length = P.cellsOf e := by rw [mapM_some_length h4]; simp
          have h6 := mapM_some_get h4 k k (by rw [List.getElem?_range (by omega)])
          rw [add_add, hesz] at h6
          rw [h6]; exact hk)
        refine ⟨l, ?_⟩
        simp only [Rd]
        refine ⟨some a, cap, by rw [h1], by rw [h1]; exact hl, by rw [h1]; exact hll, fun j y hj => ?_⟩
        obtain ⟨cs, h3, h4⟩ := h2 j y hj
        refine ⟨a, cs, rfl, ?_, h3, h4⟩
        have hpos : 0 < cs.length := by rw [h3.length]; exact r.sz_pos
        have h5 := h4 0 cs[0] (List.getElem?_eq_getElem hpos)
        have := World.block_lt_of_cell? W _ h5
        rwa [add_block] at this
    · rename_i a b fs hu
      obtain ⟨xs, m, rfl, rfl, hcl, hxl, hf⟩ := DataW.trod_struct hu hx
      simp only [DataW.weights, hu] at hw
      obtain ⟨y, hy⟩ := flds_rd (P := P) (w := W) (ok := fun b => b < W.heap.size) (cs := cs) (fun t u => tyOK_sz) h (by omega) (fun f hm t' ht' => by
        obtain ⟨i, hi⟩ := List.getElem?_of_mem hm
        have hi' : fs[i]? = some f := by simpa using hi
        have h1 := hf i f hi'
        have hlt : i < xs.length := by rw [hxl]; exact (Array.getElem?_eq_some_iff.1 hi').1
        rw [List.getElem?_eq_getElem hlt] at h1
        exact trod_rd n ht' h1 fun k hk => hw k (DataW.weights_mem_each (j := i) (t := f.type) (d := xs[i].1) (by simp [hi']) (by simp [hlt]) k hk))
      exact ⟨y, by simpa using hy⟩
    · cases h
theorem law_calls {P : Program} {g : Nat} {s : Summ} (hc : Contract P g s) {W : World} {args : List Value} {ds : List Dv} (hf : FlatV s.ps args args) (ha : ArgsRd W (fun b => b < W.heap.size) (flatP s.ps) args ds [] []) (hp : s.pre ds = true) (ho : s.out ds = [⟨.bool, true⟩]) (hr : s.rs = [.d .bool false])  :
    Calls P g args.toArray W fun e W' => e = .returned (.bool true) ∧ Below W.heap.size W W' := by
  refine (hc.2 W _ args args ds [] [] hf ha List.nodup_nil (fun _ h => by simp at h) (fun _ h => h) hp).mono ?_
  rintro e w' ⟨vs, rest, own, bs', rfl, hsz, hfr, hos, htp, hou, _, _, _, hres, _⟩
  rw [hr, ho] at hres
  obtain ⟨v, vs', x, d, cs, rfl, hd, h0, hsh, hres⟩ := hres
  obtain ⟨rfl, _⟩ := hres
  simp only [List.cons.injEq, Sigma.mk.injEq, true_and] at hd
  obtain ⟨hx, _⟩ := hd
  have hx : true = x := eq_of_heq hx
  subst hx
  have h0 : cs = [.bool true] := h0
  subst h0
  have : v = .bool true := by simpa [shape] using hsh.symm
  subst this
  exact ⟨rfl, hos, htp, hou, hsz, fun b hb => hfr b hb (by simp)⟩
def isAgg : Ty → Bool
  | .pair _ _ => true
  | _ => false
theorem okWide_shape {P : Program} {W : World} {r : Reach} {base : Nat} {n : Nat} {t : Ty} {ty : TypeId} {v : Value} (h : tyOK P n t ty = true) (hv : Value.okWide P W r base ty v) : shape (isAgg t) v.cells.toList v := by
  cases n with
  | zero => cases h
  | succ n =>
    simp only [tyOK, Bool.and_eq_true] at h
    replace h := h.2
    split at h
    · rename_i hu; obtain ⟨b, rfl⟩ := okWide_bool hu hv; simp [shape, isAgg, Value.cells]
    · rename_i hu; obtain ⟨b, rfl⟩ := okWide_int hu hv; simp [shape, isAgg, Value.cells]
    · rename_i hu; obtain ⟨b, rfl⟩ := okWide_string hu hv; simp [shape, isAgg, Value.cells]
    · rename_i hu; obtain ⟨a, l, c, rfl⟩ := okWide_slice hu hv; simp [shape, isAgg, Value.cells]
    · rename_i hu
      unfold Value.okWide at hv
      rw [hu] at hv
      obtain ⟨cs, rfl, _⟩ := hv
      simp [shape, isAgg, Value.cells]
    · cases h
theorem arg_rd {P : Program} {H : Type} {enc : TypeId × Value → H} {W : World} {r : Reach} {base n : Nat} {t : Ty} {ty : TypeId} {v : Value} {d : DataW H} {p : List MemPlace} (ht : tyOK P n t ty = true) (hv : Value.okWide P W r base ty v)
    (hd : DataW.Trod enc P W 0 (fun _ => true) true ty v d p) {ts : List TypeId} {ds : List (DataW H)} (hsz : (DataW.weightsEach P ts ds).all (· ≤ reachBytes) = true) {j : Nat} (hj : ts[j]? = some ty) (hdj : ds[j]? = some d) :
    ∃ y cs, Rd W (fun b => b < W.heap.size) t y cs ∧ shape (isAgg t) cs v := by
  obtain ⟨fuel, hf⟩ := hd
  obtain ⟨y, hy⟩ := trod_rd n ht hf fun m hm => by
    have := List.all_eq_true.1 hsz m (DataW.weights_mem_each hj hdj m hm)
    simpa using this
  exact ⟨y, _, hy, okWide_shape ht hv⟩
theorem summ_out1 {t : Ty} {a fz : Bool} {rs : List RS} {ts : List Ty} {f : t.den → Option (tupD ts)} {x : t.den} {r : tupD ts} (h : f x = some r) : (summOf [.d t a] fz rs ts f).pre [⟨t, x⟩] = true ∧ (summOf [.d t a] fz rs ts f).out [⟨t, x⟩] = toDs ts r := by
  simp [summOf, psTys, appD, castT_self, h, iS, gS]
end Go.MC

set_option linter.unusedVariables false
set_option linter.unusedSimpArgs false
namespace Go.MC
open Go.RowKit Go.Sort Go.Proofs
theorem turn_step {F : Fx} {k : K} (hk : HeapOK F k) {id e : Nat} {r : Ty} {xs ys : List r.den} {ws : List Value} {w' : World} (h : k.h id = some (.arr e r xs))
    (hg : k.w.grownBy w' (ownB (k.ν id))) (hown : OwnsR w' (F.bs id) e r.sz (k.ν id) ys.length ws) (hr : RdRows k.w (k.ok F) r ys ws) (hl : ys.length = xs.length) (hlim : ys.length ≤ lim) :
    ∃ k', k'.w = w' ∧ k'.h = (k.put [(id, .arr e r ys)]).h ∧ HeapOK F k' ∧ Le F k k' := by
  let k' : K := ⟨w', (k.put [(id, .arr e r ys)]).h, k.μ, k.ν, k.nb⟩
  have hh : ∀ i, k'.h i = if i = id then some (.arr e r ys) else k.h i := by
    intro i
    show (lkH [(id, Ob.arr e r ys)] i).or (k.h i) = _
    rw [lkH_one]
    split <;> simp
  have hidown : ∀ b, k'.own id b → ownB (k.ν id) = some b := by
    intro b hb
    unfold K.own at hb
    rw [hh, if_pos rfl] at hb
    exact hb
  have main := reown hk (k' := k') (fun x => x = id) hg.size (fun b hb hn => hg.block b hb fun hv => hn id rfl (own_block h hv.symm)) hg.os hg.tape hg.output (fun x hx => ⟨by rw [hh, if_neg hx], rfl, rfl, rfl⟩) (fun x hx => ?_) (fun x b hx hb => ?_) (fun x y b hx hy _ _ => hx.trans hy.symm) (fun hle x o hx ho => ?_)
  · exact ⟨k', rfl, rfl, main.1, main.2⟩
  · subst hx
    exact .inr ⟨e, r, xs, _, h, rfl, .inl ⟨ys, .no, by rw [hh, if_pos rfl], hl⟩⟩
  · subst hx
    exact .inl ⟨x, rfl, own_block h (hidown b hb)⟩
  · subst hx
    rw [hh, if_pos rfl] at ho
    cases ho
    exact ⟨ws, hown, hle.rdRows hr, hlim⟩
def srt (xs : List (List UInt8)) : List (List UInt8) := xs.mergeSort fun x y => decide (x ≤ y)
def cmpct (xs : List (List UInt8)) : List (List UInt8) := Lib.compact xs
theorem srt_length (xs : List (List UInt8)) : (srt xs).length = xs.length := List.length_mergeSort ..
theorem srt_mem {xs : List (List UInt8)} {x : List UInt8} : x ∈ srt xs ↔ x ∈ xs := List.mem_mergeSort
theorem cmpct_mem {xs : List (List UInt8)} {x : List UInt8} (h : x ∈ cmpct xs) : x ∈ xs := by
  unfold cmpct Lib.compact Lib.compactUpTo at h
  obtain ⟨j, hj, rfl⟩ := List.mem_map.1 h
  have hj := List.mem_range.1 (List.mem_filter.1 hj).1
  simp [hj]
theorem cmpct_length (xs : List (List UInt8)) : (cmpct xs).length ≤ xs.length := by
  unfold cmpct Lib.compact Lib.compactUpTo
  rw [List.length_map]
  refine Nat.le_trans (List.length_filter_le _ _) ?_
  simp
theorem rdRows_str {w : World} {ok : Nat → Prop} : ∀ {xs : List (List UInt8)} {us : List Value}, RdRows w ok .str xs us ↔ us = xs.map encStr ∧ ∀ x ∈ xs, x.length ≤ lim
  | [], us => by simp [RdRows]
  | x :: xs, us => by
    simp only [RdRows]
    constructor
    · rintro ⟨v1, v2, rfl, ⟨rfl, h1⟩, h2⟩
      obtain ⟨rfl, h3⟩ := rdRows_str.1 h2
      refine ⟨rfl, fun y hy => ?_⟩
      rcases List.mem_cons.1 hy with rfl | hy
      · exact h1
      · exact h3 y hy
    · rintro ⟨rfl, h⟩
      exact ⟨[.string ⟨⟨x⟩⟩], xs.map encStr, rfl, ⟨rfl, h x (by simp)⟩, rdRows_str.2 ⟨rfl, fun y hy => h y (by simp [hy])⟩⟩
inductive LibK where
  | sortS
  | compS
  | delR (e sz : Nat)
def lkL : List (Nat × LibK) → Nat → Option LibK
  | [], _ => none
  | (j, k) :: l, i => bif Nat.beq j i then some k else lkL l i
def inlL (L : List (Nat × LibK)) : Inl := fun _ g vs H kont => match lkL L g with
  | some .sortS => match vs with
    | [.w (.one (.arr id))] => match lkH H id with
      | some (.arr e .str xs) => kont (.tup []) ((id, .arr e .str (srt xs)) :: H)
      | _ => none
    | [.w (.one .emp)] => kont (.tup []) H
    | _ => none
  | some .compS => match vs with
    | [.w (.one (.arr id))] => match lkH H id with
      | some (.arr e .str xs) => match lkH H (800000 + H.length) with
        | none => bif isPar id then none else kont (.w (.one (.arr (800000 + H.length)))) ((800000 + H.length, .arr e .str (cmpct xs)) :: (id, .gone) :: H)
        | some _ => none
      | _ => none
    | [.w (.one .emp)] => kont (.w (.one .emp)) H
    | _ => none
  | some (.delR e sz) => match vs with
    | [.w (.one (.arr id)), .w (.one (.v (.int .i64) i)), .w (.one (.v (.int .i64) j))] => match lkH H id with
      | some (.arr e' r xs (.yes ns)) => match lkH H (800000 + H.length) with
        | none => bif Nat.beq e' e && (Nat.beq r.sz sz && !isPar id) then (bif decide ((0 : Int) ≤ i) then (bif decide ((i : Int) < (xs.length : Int)) then (bif decide ((j : Int) = (i : Int) + 1) then
            kont (.w (.one (.arr (800000 + H.length)))) ((800000 + H.length, .arr e' r (xs.eraseIdx (Int.toNat i)) (.yes ns)) :: (id, .gone) :: H) else none) else none) else none) else none
        | some _ => none
      | _ => none
    | _ => none
  | none => none
def LibOK (P : Program) (g : Nat) : LibK → Prop
  | .sortS => (∀ (args : Array Value) (w : World), (callFunc g args).run P w = .ok (.enter g args) w) ∧
    (∀ (blk off cap : Nat) (ss : List (List UInt8)) (w : World), Holds encStr w blk off ss.toArray → blk < w.heap.size → ss.length < 4611686018427387904 →
      Calls P g #[.slice (some ⟨blk, off, none⟩) ss.length cap] w fun e w' => e = .returned (.tuple #[]) ∧ ∃ n os, w' = grow (putRow encStr (Sort.ahead w n) blk off (ss.mergeSort fun x y => decide (x ≤ y)).toArray) os) ∧
    (∀ (p : Option Addr) (cap : Nat) (w : World), Calls P g #[.slice p 0 cap] w fun e w' => e = .returned (.tuple #[]) ∧ w' = w)
  | .compS => (∀ (args : Array Value) (w : World), (callFunc g args).run P w = .ok (.enter g args) w) ∧
    (∀ (blk off cap : Nat) (zs : List (List UInt8)) (w : World), Holds encStr w blk off zs.toArray → zs.length ≤ 9223372036854775807 → zs.length ≤ cap →
      Calls P g #[.slice (some ⟨blk, off, none⟩) zs.length cap] w fun e w' => e = .returned (.slice (some ⟨blk, off, none⟩) (Lib.compact zs).length cap) ∧ ∃ q, w' = putRow encStr (Sort.ahead w q) blk off (Lib.compact zs ++ List.replicate (zs.length - (Lib.compact zs).length) []).toArray) ∧
    (∀ (a : Option Addr) (cap : Nat) (w : World), Calls P g #[.slice a 0 cap] w fun e w' => e = .returned (.slice a 0 cap) ∧ w' = w)
  | .delR e sz => (∀ (args : Array Value) (w : World), (callFunc g args).run P w = .ok (.enter g args) w) ∧
    (∀ (blk cap m i : Nat) (cur : Array Value) (w : World), w.heap[blk]? = some (.cells cur e (0, 0)) → cur.size = cap * sz → i ≤ m → m + 1 ≤ cap → cap ≤ maxLen → (∀ t u, t < (m + 1) * sz → cur.toList[t]? = some u → u.oneCell' = true) →
      Calls P g #[.slice (some ⟨blk, 0, none⟩) (m + 1) cap, .int .i64 i, .int .i64 ((i : Int) + 1)] w fun r w' => r = .returned (.slice (some ⟨blk, 0, none⟩) m cap) ∧
        ∃ cur' : Array Value, w'.heap[blk]? = some (.cells cur' e (0, 0)) ∧ cur'.size = cur.size ∧ cur'.toList.take (m * sz) = cur.toList.take (i * sz) ++ (cur.toList.take ((m + 1) * sz)).drop ((i + 1) * sz) ∧ w.grownBy w' (some blk))
theorem OwnRows.erase {w : World} {ok : Nat → Prop} {base : Nat} {r : Ty} {ns : List Nat} : ∀ {xs : List r.den} {vs : List Value} {os : List Nat} (i : Nat), OwnRows w ok base r ns xs vs os → i < xs.length →
    ∃ os', OwnRows w ok base r ns (xs.eraseIdx i) (vs.take (i * r.sz) ++ vs.drop ((i + 1) * r.sz)) os' ∧ os'.Sublist os
  | [], _, _, i, _, hi => by simp at hi
  | x :: xs, vs, os, 0, h, _ => by
    obtain ⟨v1, v2, o1, o2, rfl, h1, h2, rfl⟩ := h
    have hl := h1.length
    refine ⟨o2, ?_, List.sublist_append_right _ _⟩
    rw [Nat.zero_mul, List.take_zero, List.nil_append, Nat.zero_add, Nat.one_mul, ← hl, List.drop_left]
    exact h2
  | x :: xs, vs, os, i + 1, h, hi => by
    obtain ⟨v1, v2, o1, o2, rfl, h1, h2, rfl⟩ := h
    have hl := h1.length
    obtain ⟨os', h3, h4⟩ := OwnRows.erase (xs := xs) i h2 (by simpa using hi)
    refine ⟨o1 ++ os', ⟨v1, _, o1, os', ?_, h1, h3, rfl⟩, (List.Sublist.refl _).append h4⟩
    have e1 : (i + 1) * r.sz = v1.length + i * r.sz := by rw [hl, Nat.add_mul, Nat.one_mul, Nat.add_comm]
    have e2 : (i + 1 + 1) * r.sz = v1.length + (i + 1) * r.sz := by rw [hl, Nat.add_mul (i + 1) 1, Nat.one_mul, Nat.add_comm]
    rw [e2, List.drop_append, List.drop_of_length_le (by omega), List.nil_append, Nat.add_sub_cancel_left]
    rw [show (v1 ++ v2).take ((i + 1) * r.sz) = v1 ++ v2.take (i * r.sz) by rw [e1, List.take_append, List.take_of_length_le (by omega), Nat.add_sub_cancel_left]]
    rw [List.append_assoc]
def LibsOK (P : Program) : List (Nat × LibK) → Prop
  | [] => True
  | p :: l => LibOK P p.1 p.2 ∧ LibsOK P l
theorem lkL_all {P : Program} : ∀ {L : List (Nat × LibK)}, LibsOK P L → ∀ g k, lkL L g = some k → LibOK P g k
  | [], _, g, k, h => by cases h
  | (j, kd) :: l, hL, g, k, h => by
    simp only [lkL] at h
    cases hb : Nat.beq j g with
    | true =>
      rw [hb] at h
      cases h
      rw [← Nat.eq_of_beq_eq_true hb]
      exact hL.1
    | false =>
      rw [hb] at h
      exact lkL_all hL.2 g k h
section mem
variable {P : Program}
theorem own_str {F : Fx} {k : K} (hk : HeapOK F k) {id e : Nat} {xs : List (List UInt8)} (h : k.h id = some (.arr e .str xs)) {v : Value} (hv : relC F k (.arr id) v) :
    v = k.ν id ∧ (∀ x ∈ xs, x.length ≤ lim) ∧ xs.length ≤ lim ∧ ((∃ a, v = .slice a 0 0 ∧ xs = []) ∨ ∃ g cap cur, v = .slice (some ⟨g, 0, none⟩) xs.length cap ∧ 0 < cap ∧ F.bs id ≤ g ∧ k.w.heap[g]? = some (.cells cur e (0, 0)) ∧ xs.length ≤ cap ∧ cap ≤ maxLen ∧ cur.size = cap * 1 ∧ cur.toList.take xs.length = xs.map encStr) := by
  obtain ⟨vs, ho, hr, hl⟩ := hk.obj id _ h
  obtain ⟨rfl, hx⟩ := rdRows_str.1 hr
  have hv' : v = k.ν id := by
    have := hv.2
    rw [h] at this
    exact this
  subst hv'
  refine ⟨rfl, hx, hl, ?_⟩
  rcases ho.2 with ⟨a, h1, h2⟩ | ⟨g, cap, cur, h1, h0, h2, h3, h4, h5, h6, h7⟩
  · exact .inl ⟨a, h1, List.eq_nil_of_length_eq_zero h2⟩
  · have h7 : cur.toList.take (xs.length * 1) = xs.map encStr := h7
    rw [Nat.mul_one] at h7
    exact .inr ⟨g, cap, cur, h1, h0, h2, h3, h4, h5, h6, h7⟩
theorem lim_lt : lim < 4611686018427387904 := by decide
theorem inlL_ok {L : List (Nat × LibK)} (hL : ∀ g k, lkL L g = some k → LibOK P g k) : InlOK P (inlL L) := by
  intro ρ g vs H kont r h F k args hk hS ha R hR
  unfold inlL at h
  cases hg : lkL L g with
  | none => rw [hg] at h; cases h
  | some kd =>
    rw [hg] at h
    have hok := hL g kd hg
    have emp : ∀ {v : Value} {vs : List Value}, vs = v :: [] → relC F k .emp v → vs.toArray = #[.slice none 0 0] := by
      rintro v vs rfl hv
      rw [show v = .slice none 0 0 from hv]
    cases kd with
    | sortS =>
      obtain ⟨he, h1, h0⟩ := hok
      refine ⟨fun w => he _ w, ?_⟩
      dsimp only at h
      split at h
      · rename_i id
        obtain ⟨v, vt, rfl, hv, has⟩ := ha
        simp only [CallOK.relAs] at has
        subst has
        split at h
        · rename_i e xs hid
          have hid' : k.h id = some (.arr e .str xs) := by rw [hS]; exact hid
          obtain ⟨hν, hx, hl, hcase⟩ := own_str hk hid' hv
          have fin : ∀ w', k.w.grownBy w' (ownB (k.ν id)) → OwnsR w' (F.bs id) e 1 (k.ν id) (srt xs).length ((srt xs).map encStr) → R (.returned (.tuple #[])) w' := by
            intro w' hg' hown
            obtain ⟨k', hk1, hk2, hk3, hk4⟩ := turn_step hk hid' hg' hown (rdRows_str.2 ⟨rfl, fun x hx' => hx x (srt_mem.1 hx')⟩) (srt_length xs) (by rw [srt_length]; exact hl)
            rw [← hk1]
            exact hR _ _ k' _ h (by rw [hk2]; funext i; show _ = lkH ([(id, Ob.arr e .str (srt xs))] ++ H) i; rw [lkH_append, ← hS]; rfl) hk3 hk4 ⟨[], rfl, rfl⟩
          rcases hcase with ⟨a0, rfl, rfl⟩ | ⟨gb, cap, cur, rfl, hcp, hb, hc, h2, h3, h4, h5⟩
          · refine (h0 a0 0 k.w).mono ?_
            rintro e' w' ⟨rfl, rfl⟩
            refine fin _ ⟨rfl, rfl, rfl, Nat.le_refl _, fun _ _ _ => rfl⟩ ?_
            rw [← hν]
            have : srt [] = [] := by simp [srt]
            rw [this]
            exact .mt a0
          · have hlt : gb < k.w.heap.size := (Array.getElem?_eq_some_iff.1 hc).1
            refine (h1 gb 0 cap xs k.w (holds_of_block hc h5) hlt (Nat.lt_of_le_of_lt hl lim_lt)).mono ?_
            rintro e' w' ⟨rfl, n, os, rfl⟩
            refine fin _ (by rw [← hν, ownB_pos hcp]; exact grownBy_sorted _) ?_
            rw [← hν]
            have := ownsRow_sorted (os := os) (n := n) (ts := srt xs) (srt_length xs) hb hc h2 h3 h4
            rw [srt_length]
            exact .of this
        · cases h
      · obtain ⟨v, vt, rfl, hv, has⟩ := ha
        simp only [CallOK.relAs] at has
        subst has
        rw [emp rfl hv]
        refine (h0 none 0 k.w).mono ?_
        rintro e' w' ⟨rfl, rfl⟩
        exact hR _ _ k _ h hS hk (Le.refl F k) ⟨[], rfl, rfl⟩
      · cases h
    | compS =>
      obtain ⟨he, h1, h0⟩ := hok
      refine ⟨fun w => he _ w, ?_⟩
      dsimp only at h
      split at h
      · rename_i id
        obtain ⟨v, vt, rfl, hv, has⟩ := ha
        simp only [CallOK.relAs] at has
        subst has
        split at h
        · rename_i e xs hid
          split at h
          · rename_i hnew
            cases hp : isPar id with
            | true => rw [hp] at h; cases h
            | false =>
            rw [hp] at h
            simp only [cond_false] at h
            have hid' : k.h id = some (.arr e .str xs) := by rw [hS]; exact hid
            have hnew' : k.h (800000 + H.length) = none := by rw [hS]; exact hnew
            obtain ⟨hν, hx, hl, hcase⟩ := own_str hk hid' hv
            have fin : ∀ w' v', (∀ b, ownB v' = some b → ownB v = some b) → k.w.grownBy w' (ownB v) → OwnsR w' 0 e 1 v' (cmpct xs).length ((cmpct xs).map encStr) → R (.returned v') w' := by
              intro w' v' hb hg' hown
              obtain ⟨k', hk1, hk2, hk3, hk4, hk5⟩ := append_step' hk (r := .str) (e := e) (d := .no) (zs := cmpct xs) (ids := [id]) hnew' (fun i hi => by simp at hi; subst hi; exact ⟨_, _, _, _, hid'⟩) (row := ownB v) (fun b hb => ⟨id, by simp, own_block hid' (by rw [← hν]; exact hb)⟩) hown (Nat.le_trans (cmpct_length xs) hl) hg' (fun b h => .inl (hb b h)) [] (fun _ h => by simp at h) List.nodup_nil (.inl ⟨rfl, rdRows_str.2 ⟨rfl, fun x hx' => hx x (cmpct_mem hx')⟩⟩)
              rw [← hk1]
              exact hR _ _ k' _ h (by rw [hk2]; funext i; show _ = lkH ([(800000 + H.length, Ob.arr e .str (cmpct xs)), (id, .gone)] ++ H) i; rw [lkH_append, ← hS]; rfl) hk3 hk4 hk5
            rcases hcase with ⟨a0, rfl, rfl⟩ | ⟨gb, cap, cur, rfl, hcp, hb, hc, h2, h3, h4, h5⟩
            · refine (h0 a0 0 k.w).mono ?_
              rintro e' w' ⟨rfl, rfl⟩
              exact fin _ _ (fun _ h => h) ⟨rfl, rfl, rfl, Nat.le_refl _, fun _ _ _ => rfl⟩ (.mt a0)
            · refine (h1 gb 0 cap xs k.w (holds_of_block hc h5) (Nat.le_trans hl (by decide)) h2).mono ?_
              rintro e' w' ⟨rfl, q, rfl⟩
              have hlen : (Lib.compact xs ++ List.replicate (xs.length - (Lib.compact xs).length) []).length = xs.length := by
                have := cmpct_length xs
                unfold cmpct at this
                rw [List.length_append, List.length_replicate]
                omega
              have ho := ownsRow_sorted (os := #[]) (n := q) (ts := Lib.compact xs ++ List.replicate (xs.length - (Lib.compact xs).length) []) hlen hb hc h2 h3 h4
              have hgr := grownBy_sorted (w := k.w) (g := gb) (n := q) (os := #[]) (Lib.compact xs ++ List.replicate (xs.length - (Lib.compact xs).length) []).toArray
              rw [grow_empty] at ho hgr
              refine fin _ _ (fun b h => by rw [ownB_pos hcp] at h ⊢; exact h) (by rw [ownB_pos hcp]; exact hgr) (.of ?_)
              have hcl := cmpct_length xs
              obtain ⟨_, ho⟩ := ho
              rcases ho with ⟨ho, _⟩ | ⟨g2, cap2, cur2, e1, e2, e3, e4, e5, e6, e7⟩
              · cases ho
              · cases e1
                refine ⟨by simp, .inr ⟨gb, cap, cur2, rfl, hb, e3, Nat.le_trans hcl h2, h3, e6, ?_⟩⟩
                have : (cur2.toList.take (xs.length * 1)).take (cmpct xs).length = (cmpct xs).map encStr := by
                  rw [e7, List.map_append]
                  exact List.take_left' (by simp [cmpct])
                rw [List.take_take, Nat.mul_one, Nat.min_eq_left hcl] at this
                rw [Nat.mul_one]
                exact this
          · cases h
        · cases h
      · obtain ⟨v, vt, rfl, hv, has⟩ := ha
        simp only [CallOK.relAs] at has
        subst has
        rw [emp rfl hv]
        refine (h0 none 0 k.w).mono ?_
        rintro e' w' ⟨rfl, rfl⟩
        exact hR _ _ k _ h hS hk (Le.refl F k) rfl
      · cases h
    | delR e sz =>
      obtain ⟨he, h1⟩ := hok
      refine ⟨fun w => he _ w, ?_⟩
      dsimp only at h
      split at h
      · rename_i id i j
        obtain ⟨v, vt, rfl, hv, has⟩ := ha
        simp only [CallOK.relAs] at has
        obtain ⟨vi, vt2, rfl, hvi, vj, vt3, rfl, hvj, rfl⟩ := has
        split at h
        · rename_i e' r xs ns hid
          split at h
          · rename_i hnew
            cases hb1 : (Nat.beq e' e && (Nat.beq r.sz sz && !isPar id)) with
            | false => rw [hb1] at h; cases h
            | true =>
            rw [hb1] at h
            simp only [Bool.and_eq_true, Bool.not_eq_true'] at hb1
            obtain ⟨q1, q2, hp⟩ := hb1
            obtain rfl := Nat.eq_of_beq_eq_true q1
            obtain rfl := Nat.eq_of_beq_eq_true q2
            by_cases hi0 : (0 : Int) ≤ i
            · by_cases hi1 : (i : Int) < (xs.length : Int)
              · by_cases hj : (j : Int) = (i : Int) + 1
                · simp only [cond_true, decide_eq_true hi0, decide_eq_true hi1, decide_eq_true hj] at h
                  have hid' : k.h id = some (.arr e' r xs (dpO (some ns))) := by rw [hS]; exact hid
                  have hnew' : k.h (800000 + H.length) = none := by rw [hS]; exact hnew
                  obtain ⟨us, bl, ho, hrows, hl, hown, hnd, hbl⟩ := objO hk hid'
                  have hν : v = k.ν id := by
                    have := hv.2
                    rw [hid'] at this
                    exact this
                  obtain ⟨n, rfl⟩ : ∃ n : Nat, i = (n : Int) := ⟨_, (Int.toNat_of_nonneg hi0).symm⟩
                  have hi1' : (n : Int) < (xs.length : Int) := hi1
                  have hn : n < xs.length := by omega
                  have evi : vi = .int .i64 (n : Int) := (List.cons.inj hvi.1).1
                  have evj : vj = .int .i64 ((n : Int) + 1) := by
                    have : vj = .int .i64 j := (List.cons.inj hvj.1).1
                    rw [this, hj]
                  subst evi evj
                  rw [Int.toNat_natCast] at h
                  obtain ⟨hlen, ho⟩ := ho
                  rcases ho with ⟨a0, _, e0⟩ | ⟨gb, cap, cur, e1, hcp, hb, hc, h2, h3, h4, h5⟩
                  · omega
                  · obtain ⟨m, hm⟩ : ∃ m, xs.length = m + 1 := ⟨xs.length - 1, by omega⟩
                    rw [hν, e1, hm]
                    refine (h1 gb cap m n cur k.w hc h4 (by omega) (by omega) h3 (fun t u ht hu => ?_)).mono ?_
                    · refine OwnRows.one hrows u ?_
                      rw [← h5, hm]
                      exact List.mem_of_getElem? (by rw [List.getElem?_take, if_pos ht]; exact hu)
                    · rintro r' w' ⟨rfl, cur', g1, g2, g3, g4⟩
                      obtain ⟨os', r1, r2⟩ := OwnRows.erase n hrows hn
                      have hob : ownB (k.ν id) = some gb := by rw [e1]; exact ownB_pos hcp
                      rw [hob] at hnd hown
                      have hlz : (xs.eraseIdx n).length = m := by rw [List.length_eraseIdx]; simp [hn]; omega
                      have hws : us.take (n * r.sz) ++ us.drop ((n + 1) * r.sz) = cur'.toList.take (m * r.sz) := by
                        rw [g3, ← h5, hm, List.take_take, Nat.min_eq_left (Nat.mul_le_mul_right _ (by omega))]
                      have hnb : ∀ b ∈ os', some gb ≠ some b ∧ ∃ x ∈ [id], k.own x b := by
                        intro b hb
                        have hbb := r2.subset hb
                        refine ⟨fun e2 => ?_, id, by simp, (hown b).2 (by simp [hbb])⟩
                        have e3 : gb = b := by simpa using e2
                        exact (List.nodup_append.1 hnd).2.2 gb (by simp) b hbb e3
                      obtain ⟨k', hk1, hk2, hk3, hk4, hk5⟩ := append_step' hk (r := r) (e := e') (d := .yes ns) (zs := xs.eraseIdx n) (v' := .slice (some ⟨gb, 0, none⟩) m cap) (ids := [id]) hnew' (fun x hx => by simp at hx; subst hx; exact ⟨_, _, _, _, hid'⟩) (row := some gb) (fun b hb => ⟨id, by simp, (hown b).2 (by simp at hb; simp [hb])⟩)
                        (ws := us.take (n * r.sz) ++ us.drop ((n + 1) * r.sz)) (w' := w') ⟨by rw [r1.length], .inr ⟨gb, cap, cur', by rw [hlz], hcp, Nat.zero_le _, g1, by omega, h3, by rw [g2]; exact h4, by rw [hlz]; exact hws.symm⟩⟩ (by omega) g4 (fun b hb => .inl (by rw [ownB_pos hcp] at hb; exact hb)) os' hnb (r2.nodup (List.nodup_append.1 hnd).2.1) (.inr ⟨ns, rfl, OwnRows.base (Nat.zero_le _) r1⟩)
                      rw [← hk1]
                      exact hR _ _ k' _ h (by rw [hk2]; funext x; show _ = lkH ([(800000 + H.length, Ob.arr e' r (xs.eraseIdx n) (.yes ns)), (id, .gone)] ++ H) x; rw [lkH_append, ← hS]; rfl) hk3 hk4 hk5
                · simp only [cond_true, decide_eq_true hi0, decide_eq_true hi1, decide_eq_false hj] at h; cases h
              · simp only [cond_true, decide_eq_true hi0, decide_eq_false hi1] at h; cases h
            · simp only [cond_true, decide_eq_false hi0] at h; cases h
          · cases h
        · cases h
      · cases h
end mem
noncomputable def inlB (L : List (Nat × LibK)) (Fs : List (Nat × FI)) (TT : Nat → Option TD) (Φ : Nat → Option Summ) (N : Nat) : Inl := fun ρ g vs H kont => match lkL L g with
  | some _ => inlL L ρ g vs H kont
  | none => inlD TT Φ (lkFI Fs) N 1 ρ g vs H kont
 where
  lkFI : List (Nat × FI) → Nat → Option FI
    | [], _ => none
    | (j, f) :: l, i => bif Nat.beq j i then some f else lkFI l i
def FnsOK (P : Program) : List (Nat × FI) → Prop
  | [] => True
  | p :: l => FnOK P p.1 p.2 ∧ FnsOK P l
theorem lkFI_all {P : Program} : ∀ {l : List (Nat × FI)}, FnsOK P l → ∀ g f, inlB.lkFI l g = some f → FnOK P g f
  | [], _, g, f, h => by cases h
  | (j, fd) :: l, hl, g, f, h => by
    simp only [inlB.lkFI] at h
    cases hb : Nat.beq j g with
    | true =>
      rw [hb] at h
      cases h
      rw [← Nat.eq_of_beq_eq_true hb]
      exact hl.1
    | false =>
      rw [hb] at h
      exact lkFI_all hl.2 g f h
theorem inlB_ok {P : Program} {L : List (Nat × LibK)} (hL : LibsOK P L) {Fs : List (Nat × FI)} (hF : FnsOK P Fs) {TT : Nat → Option TD} {Φ : Nat → Option Summ} {N : Nat} (hTT : TTok P TT) (hΦ : CallOK P Φ) (hm : P.follows .mixedOrders = true) : InlOK P (inlB L Fs TT Φ N) := by
  intro ρ g vs H kont r h
  unfold inlB at h
  split at h
  · exact inlL_ok (lkL_all hL) h
  · exact inlD_sound hTT hΦ hm (lkFI_all hF) 1 h
end Go.MC

namespace Go.MC
abbrev Txt : Type := List UInt8
abbrev Use : Type := Txt × Int × Int
abbrev Want : Type := Int × Int × List Txt × List Use × List Txt × List Txt
abbrev Part : Type := Want × Bool
abbrev Foe : Type := Txt × Txt
abbrev Spot : Type := Txt × Int × Int × Int × List Txt
abbrev Book : Type := List Foe × List Spot × List Txt × List Part × Int
abbrev Do : Type := Want × Int × Int × Int × Bool
abbrev Rdr : Type := List Int × Int
abbrev tInt : Ty := .int .i64
abbrev tByte : Ty := .int .u8
abbrev tTxts : Ty := .slice .str
abbrev tUse : Ty := .pair .str (.pair tInt tInt)
abbrev tWant : Ty := .pair tInt (.pair tInt (.pair tTxts (.pair (.slice tUse) (.pair tTxts tTxts))))
abbrev tPart : Ty := .pair tWant .bool
abbrev tFoe : Ty := .pair .str .str
abbrev tSpot : Ty := .pair .str (.pair tInt (.pair tInt (.pair tInt tTxts)))
abbrev tBook : Ty := .pair (.slice tFoe) (.pair (.slice tSpot) (.pair tTxts (.pair (.slice tPart) tInt)))
abbrev tDo : Ty := .pair tWant (.pair tInt (.pair tInt (.pair tInt .bool)))
abbrev dUse : Use := ([], 0, 0)
abbrev dWant : Want := (0, 0, [], [], [], [])
abbrev dPart : Part := (dWant, false)
abbrev dFoe : Foe := ([], [])
abbrev dSpot : Spot := ([], 0, 0, 0, [])
end Go.MC

set_option linter.unusedVariables false
set_option maxRecDepth 100000
namespace Go.MC
open Go.Proofs
def tabL : List (Nat × TD) := [
  (1, ⟨1, 8, false, .pair .bool .bool, [.u], [], 0, false, [], []⟩),
  (2, ⟨1, 8, false, .int .i64, [.v (.int .i64) (0 : Int)], [], 0, true, [], []⟩),
  (3, ⟨1, 8, false, .int .i64, [.v (.int .i64) (0 : Int)], [], 0, true, [], []⟩),
  (4, ⟨1, 1, false, .bool, [.v .bool false], [], 0, true, [], []⟩),
  (5, ⟨1, 1, false, .int .u8, [.v (.int .u8) (0 : Int)], [], 0, true, [], []⟩),
  (6, ⟨1, 1, false, .int .u8, [.v (.int .u8) (0 : Int)], [], 0, true, [], []⟩),
  (7, ⟨4, 24, true, .pair (.int .i64) (.pair (.int .i64) (.pair (.bool) (.int .u8))), [.v (.int .i64) (0 : Int), .v (.int .i64) (0 : Int), .v .bool false, .v (.int .u8) (0 : Int)], [(2, 0), (3, 1), (4, 2), (6, 3)], 0, true, [], []⟩),
  (8, ⟨4, 24, true, .pair (.int .i64) (.pair (.int .i64) (.pair (.bool) (.int .u8))), [.v (.int .i64) (0 : Int), .v (.int .i64) (0 : Int), .v .bool false, .v (.int .u8) (0 : Int)], [(2, 0), (3, 1), (4, 2), (6, 3)], 0, true, [], []⟩),
  (9, ⟨1, 16, false, .str, [.v .str []], [], 0, true, [], []⟩),
  (10, ⟨1, 16, false, .str, [.v .str []], [], 0, true, [], []⟩),
  (11, ⟨1, 16, false, .str, [.v .str []], [], 0, true, [], []⟩),
  (12, ⟨1, 8, false, .int .u64, [.v (.int .u64) (0 : Int)], [], 0, true, [], []⟩),
  (13, ⟨2, 24, true, .pair (.str) (.int .u64), [.v .str [], .v (.int .u64) (0 : Int)], [(9, 0), (12, 1)], 0, true, [], []⟩),
  (14, ⟨2, 24, true, .pair (.str) (.int .u64), [.v .str [], .v (.int .u64) (0 : Int)], [(9, 0), (12, 1)], 0, true, [], []⟩),
  (15, ⟨1, 8, false, .pair .bool .bool, [.u], [], 0, false, [], []⟩),
  (16, ⟨1, 8, false, .pair .bool .bool, [.u], [], 0, false, [], []⟩),
  (17, ⟨1, 8, false, .pair .bool .bool, [.u], [], 0, false, [], []⟩),
  (18, ⟨1, 8, true, .pair .bool .bool, [.u], [(17, 0)], 0, false, [], []⟩),
  (19, ⟨1, 8, true, .pair .bool .bool, [.u], [(17, 0)], 0, false, [], []⟩),
  (20, ⟨1, 16, false, .pair .bool .bool, [.u], [], 0, false, [], []⟩),
  (21, ⟨1, 4, false, .int .i32, [.v (.int .i32) (0 : Int)], [], 0, true, [], []⟩),
  (22, ⟨1, 24, false, .slice (.int .u8), [.emp], [], 5, true, [], []⟩),
  (23, ⟨1, 24, false, .slice (.pair (.str) (.str)), [.emp], [], 106, true, [], []⟩),
  (24, ⟨1, 24, false, .slice (.pair (.str) (.pair (.int .i64) (.pair (.int .i64) (.pair (.int .i64) (.slice (.str)))))), [.emp], [], 34, true, [], []⟩),
  (25, ⟨1, 24, false, .slice (.str), [.emp], [], 9, true, [], []⟩),
  (26, ⟨1, 24, false, .slice (.pair (.pair (.int .i64) (.pair (.int .i64) (.pair (.slice (.str)) (.pair (.slice (.pair (.str) (.pair (.int .i64) (.int .i64)))) (.pair (.slice (.str)) (.slice (.str))))))) (.bool)), [.emp], [], 94, true, [], []⟩),
  (27, ⟨5, 104, true, .pair (.slice (.pair (.str) (.str))) (.pair (.slice (.pair (.str) (.pair (.int .i64) (.pair (.int .i64) (.pair (.int .i64) (.slice (.str))))))) (.pair (.slice (.str)) (.pair (.slice (.pair (.pair (.int .i64) (.pair (.int .i64) (.pair (.slice (.str)) (.pair (.slice (.pair (.str) (.pair (.int .i64) (.int .i64)))) (.pair (.slice (.str)) (.slice (.str))))))) (.bool))) (.int .i64)))), [.emp, .emp, .emp, .emp, .v (.int .i64) (0 : Int)], [(23, 0), (24, 1), (25, 2), (26, 3), (3, 4)], 0, true, [], []⟩),
  (28, ⟨5, 104, true, .pair (.slice (.pair (.str) (.str))) (.pair (.slice (.pair (.str) (.pair (.int .i64) (.pair (.int .i64) (.pair (.int .i64) (.slice (.str))))))) (.pair (.slice (.str)) (.pair (.slice (.pair (.pair (.int .i64) (.pair (.int .i64) (.pair (.slice (.str)) (.pair (.slice (.pair (.str) (.pair (.int .i64) (.int .i64)))) (.pair (.slice (.str)) (.slice (.str))))))) (.bool))) (.int .i64)))), [.emp, .emp, .emp, .emp, .v (.int .i64) (0 : Int)], [(23, 0), (24, 1), (25, 2), (26, 3), (3, 4)], 0, true, [], []⟩),
  (29, ⟨1, 24, false, .slice (.pair (.pair (.int .i64) (.pair (.int .i64) (.pair (.slice (.str)) (.pair (.slice (.pair (.str) (.pair (.int .i64) (.int .i64)))) (.pair (.slice (.str)) (.slice (.str))))))) (.pair (.int .i64) (.pair (.int .i64) (.pair (.int .i64) (.bool))))), [.emp], [], 41, true, [], []⟩),
  (31, ⟨1, 8, false, .pair .bool .bool, [.u], [], 0, false, [], []⟩),
  (32, ⟨1, 24, false, .slice (.pair (.str) (.int .i64)), [.emp], [], 36, true, [], []⟩),
  (33, ⟨5, 64, true, .pair (.str) (.pair (.int .i64) (.pair (.int .i64) (.pair (.int .i64) (.slice (.str))))), [.v .str [], .v (.int .i64) (0 : Int), .v (.int .i64) (0 : Int), .v (.int .i64) (0 : Int), .emp], [(9, 0), (3, 1), (3, 2), (3, 3), (25, 4)], 0, true, [], [9]⟩),
  (34, ⟨5, 64, true, .pair (.str) (.pair (.int .i64) (.pair (.int .i64) (.pair (.int .i64) (.slice (.str))))), [.v .str [], .v (.int .i64) (0 : Int), .v (.int .i64) (0 : Int), .v (.int .i64) (0 : Int), .emp], [(9, 0), (3, 1), (3, 2), (3, 3), (25, 4)], 0, true, [], [9]⟩),
  (35, ⟨2, 24, true, .pair (.str) (.int .i64), [.v .str [], .v (.int .i64) (0 : Int)], [(9, 0), (3, 1)], 0, true, [.str, .int .i64], []⟩),
  (36, ⟨2, 24, true, .pair (.str) (.int .i64), [.v .str [], .v (.int .i64) (0 : Int)], [(9, 0), (3, 1)], 0, true, [.str, .int .i64], []⟩),
  (37, ⟨1, 24, false, .slice (.pair (.str) (.pair (.int .i64) (.int .i64))), [.emp], [], 82, true, [], []⟩),
  (38, ⟨6, 112, true, .pair (.int .i64) (.pair (.int .i64) (.pair (.slice (.str)) (.pair (.slice (.pair (.str) (.pair (.int .i64) (.int .i64)))) (.pair (.slice (.str)) (.slice (.str)))))), [.v (.int .i64) (0 : Int), .v (.int .i64) (0 : Int), .emp, .emp, .emp, .emp], [(3, 0), (3, 1), (25, 2), (37, 3), (25, 4), (25, 5)], 0, true, [], [9, 82, 9, 9]⟩),
  (39, ⟨6, 112, true, .pair (.int .i64) (.pair (.int .i64) (.pair (.slice (.str)) (.pair (.slice (.pair (.str) (.pair (.int .i64) (.int .i64)))) (.pair (.slice (.str)) (.slice (.str)))))), [.v (.int .i64) (0 : Int), .v (.int .i64) (0 : Int), .emp, .emp, .emp, .emp], [(3, 0), (3, 1), (25, 2), (37, 3), (25, 4), (25, 5)], 0, true, [], [9, 82, 9, 9]⟩),
  (40, ⟨10, 144, true, .pair (.pair (.int .i64) (.pair (.int .i64) (.pair (.slice (.str)) (.pair (.slice (.pair (.str) (.pair (.int .i64) (.int .i64)))) (.pair (.slice (.str)) (.slice (.str))))))) (.pair (.int .i64) (.pair (.int .i64) (.pair (.int .i64) (.bool)))), [.v (.int .i64) (0 : Int), .v (.int .i64) (0 : Int), .emp, .emp, .emp, .emp, .v (.int .i64) (0 : Int), .v (.int .i64) (0 : Int), .v (.int .i64) (0 : Int), .v .bool false], [(39, 0), (3, 6), (3, 7), (3, 8), (4, 9)], 0, true, [], [9, 82, 9, 9]⟩),
  (41, ⟨10, 144, true, .pair (.pair (.int .i64) (.pair (.int .i64) (.pair (.slice (.str)) (.pair (.slice (.pair (.str) (.pair (.int .i64) (.int .i64)))) (.pair (.slice (.str)) (.slice (.str))))))) (.pair (.int .i64) (.pair (.int .i64) (.pair (.int .i64) (.bool)))), [.v (.int .i64) (0 : Int), .v (.int .i64) (0 : Int), .emp, .emp, .emp, .emp, .v (.int .i64) (0 : Int), .v (.int .i64) (0 : Int), .v (.int .i64) (0 : Int), .v .bool false], [(39, 0), (3, 6), (3, 7), (3, 8), (4, 9)], 0, true, [], [9, 82, 9, 9]⟩),
  (43, ⟨1, 8, false, .pair .bool .bool, [.u], [], 0, false, [], []⟩),
  (44, ⟨1, 8, false, .pair .bool .bool, [.u], [], 0, false, [], []⟩),
  (45, ⟨1, 8, false, .pair .bool .bool, [.u], [], 0, false, [], []⟩),
  (46, ⟨1, 8, false, .pair .bool .bool, [.u], [], 0, false, [], []⟩),
  (47, ⟨1, 8, false, .pair .bool .bool, [.u], [], 0, false, [], []⟩),
  (48, ⟨1, 8, false, .pair .bool .bool, [.u], [], 0, false, [], []⟩),
  (49, ⟨1, 8, false, .pair .bool .bool, [.u], [], 0, false, [], []⟩),
  (50, ⟨1, 8, false, .pair .bool .bool, [.u], [], 0, false, [], []⟩),
  (51, ⟨1, 8, false, .pair .bool .bool, [.u], [], 0, false, [], []⟩),
  (52, ⟨1, 24, false, .slice (.pair (.str) (.str)), [.emp], [], 152, true, [], []⟩),
  (53, ⟨1, 24, false, .slice (.pair (.str) (.pair (.int .i64) (.pair (.int .i64) (.pair (.int .i64) (.slice (.str)))))), [.emp], [], 154, true, [], []⟩),
  (54, ⟨1, 24, false, .slice (.pair (.pair (.int .i64) (.pair (.int .i64) (.pair (.slice (.str)) (.pair (.slice (.pair (.str) (.pair (.int .i64) (.int .i64)))) (.pair (.slice (.str)) (.slice (.str))))))) (.bool)), [.emp], [], 157, true, [], []⟩),
  (55, ⟨5, 104, true, .pair (.slice (.pair (.str) (.str))) (.pair (.slice (.pair (.str) (.pair (.int .i64) (.pair (.int .i64) (.pair (.int .i64) (.slice (.str))))))) (.pair (.slice (.str)) (.pair (.slice (.pair (.pair (.int .i64) (.pair (.int .i64) (.pair (.slice (.str)) (.pair (.slice (.pair (.str) (.pair (.int .i64) (.int .i64)))) (.pair (.slice (.str)) (.slice (.str))))))) (.bool))) (.int .i64)))), [.emp, .emp, .emp, .emp, .v (.int .i64) (0 : Int)], [(52, 0), (53, 1), (25, 2), (54, 3), (3, 4)], 0, true, [], []⟩),
  (56, ⟨5, 104, true, .pair (.slice (.pair (.str) (.str))) (.pair (.slice (.pair (.str) (.pair (.int .i64) (.pair (.int .i64) (.pair (.int .i64) (.slice (.str))))))) (.pair (.slice (.str)) (.pair (.slice (.pair (.pair (.int .i64) (.pair (.int .i64) (.pair (.slice (.str)) (.pair (.slice (.pair (.str) (.pair (.int .i64) (.int .i64)))) (.pair (.slice (.str)) (.slice (.str))))))) (.bool))) (.int .i64)))), [.emp, .emp, .emp, .emp, .v (.int .i64) (0 : Int)], [(52, 0), (53, 1), (25, 2), (54, 3), (3, 4)], 0, true, [], []⟩),
  (57, ⟨1, 8, false, .pair .bool .bool, [.u], [], 0, false, [], []⟩),
  (58, ⟨1, 8, false, .pair .bool .bool, [.u], [], 0, false, [], []⟩),
  (59, ⟨1, 8, false, .pair .bool .bool, [.u], [], 0, false, [], []⟩),
  (60, ⟨1, 8, false, .pair .bool .bool, [.u], [], 0, false, [], []⟩),
  (62, ⟨1, 8, false, .pair .bool .bool, [.u], [], 0, false, [], []⟩),
  (63, ⟨1, 8, false, .pair .bool .bool, [.u], [], 0, false, [], []⟩),
  (64, ⟨1, 24, false, .slice (.int .i64), [.emp], [], 3, true, [], []⟩),
  (65, ⟨1, 8, false, .pair .bool .bool, [.u], [], 0, false, [], []⟩),
  (66, ⟨1, 8, false, .pair .bool .bool, [.u], [], 0, false, [], []⟩),
  (67, ⟨1, 8, false, .pair .bool .bool, [.u], [], 0, false, [], []⟩),
  (68, ⟨1, 8, false, .pair .bool .bool, [.u], [], 0, false, [], []⟩),
  (69, ⟨1, 8, false, .pair .bool .bool, [.u], [], 0, false, [], []⟩),
  (70, ⟨1, 8, false, .pair .bool .bool, [.u], [], 0, false, [], []⟩),
  (71, ⟨1, 24, false, .slice (.pair (.str) (.pair (.int .i64) (.int .i64))), [.emp], [], 168, true, [], []⟩),
  (72, ⟨6, 112, true, .pair (.int .i64) (.pair (.int .i64) (.pair (.slice (.str)) (.pair (.slice (.pair (.str) (.pair (.int .i64) (.int .i64)))) (.pair (.slice (.str)) (.slice (.str)))))), [.v (.int .i64) (0 : Int), .v (.int .i64) (0 : Int), .emp, .emp, .emp, .emp], [(3, 0), (3, 1), (25, 2), (71, 3), (25, 4), (25, 5)], 0, true, [], [9, 168, 9, 9]⟩),
  (73, ⟨6, 112, true, .pair (.int .i64) (.pair (.int .i64) (.pair (.slice (.str)) (.pair (.slice (.pair (.str) (.pair (.int .i64) (.int .i64)))) (.pair (.slice (.str)) (.slice (.str)))))), [.v (.int .i64) (0 : Int), .v (.int .i64) (0 : Int), .emp, .emp, .emp, .emp], [(3, 0), (3, 1), (25, 2), (71, 3), (25, 4), (25, 5)], 0, true, [], [9, 168, 9, 9]⟩),
  (74, ⟨1, 8, false, .pair .bool .bool, [.u], [], 0, false, [], []⟩),
  (75, ⟨1, 8, false, .pair .bool .bool, [.u], [], 0, false, [], []⟩),
  (76, ⟨1, 8, false, .pair .bool .bool, [.u], [], 0, false, [], []⟩),
  (77, ⟨1, 8, false, .pair .bool .bool, [.u], [], 0, false, [], []⟩),
  (78, ⟨1, 8, false, .pair .bool .bool, [.u], [], 0, false, [], []⟩),
  (80, ⟨1, 8, false, .pair .bool .bool, [.u], [], 0, false, [], []⟩),
  (81, ⟨3, 32, true, .pair (.str) (.pair (.int .i64) (.int .i64)), [.v .str [], .v (.int .i64) (0 : Int), .v (.int .i64) (0 : Int)], [(9, 0), (3, 1), (3, 2)], 0, true, [.str, .int .i64, .int .i64], []⟩),
  (82, ⟨3, 32, true, .pair (.str) (.pair (.int .i64) (.int .i64)), [.v .str [], .v (.int .i64) (0 : Int), .v (.int .i64) (0 : Int)], [(9, 0), (3, 1), (3, 2)], 0, true, [.str, .int .i64, .int .i64], []⟩),
  (83, ⟨1, 8, false, .pair .bool .bool, [.u], [], 0, false, [], []⟩),
  (84, ⟨1, 8, false, .pair .bool .bool, [.u], [], 0, false, [], []⟩),
  (85, ⟨1, 8, false, .pair .bool .bool, [.u], [], 0, false, [], []⟩),
  (86, ⟨1, 8, false, .pair .bool .bool, [.u], [], 0, false, [], []⟩),
  (87, ⟨1, 8, false, .pair .bool .bool, [.u], [], 0, false, [], []⟩),
  (88, ⟨1, 8, false, .pair .bool .bool, [.u], [], 0, false, [], []⟩),
  (89, ⟨1, 8, false, .pair .bool .bool, [.u], [], 0, false, [], []⟩),
  (90, ⟨1, 8, false, .pair .bool .bool, [.u], [], 0, false, [], []⟩),
  (91, ⟨1, 8, false, .pair .bool .bool, [.u], [], 0, false, [], []⟩),
  (92, ⟨1, 8, false, .pair .bool .bool, [.u], [], 0, false, [], []⟩),
  (93, ⟨7, 120, true, .pair (.pair (.int .i64) (.pair (.int .i64) (.pair (.slice (.str)) (.pair (.slice (.pair (.str) (.pair (.int .i64) (.int .i64)))) (.pair (.slice (.str)) (.slice (.str))))))) (.bool), [.v (.int .i64) (0 : Int), .v (.int .i64) (0 : Int), .emp, .emp, .emp, .emp, .v .bool false], [(39, 0), (4, 6)], 0, true, [], [9, 82, 9, 9]⟩),
  (94, ⟨7, 120, true, .pair (.pair (.int .i64) (.pair (.int .i64) (.pair (.slice (.str)) (.pair (.slice (.pair (.str) (.pair (.int .i64) (.int .i64)))) (.pair (.slice (.str)) (.slice (.str))))))) (.bool), [.v (.int .i64) (0 : Int), .v (.int .i64) (0 : Int), .emp, .emp, .emp, .emp, .v .bool false], [(39, 0), (4, 6)], 0, true, [], [9, 82, 9, 9]⟩),
  (95, ⟨1, 8, false, .pair .bool .bool, [.u], [], 0, false, [], []⟩),
  (96, ⟨1, 8, false, .pair .bool .bool, [.u], [], 0, false, [], []⟩),
  (97, ⟨1, 8, false, .pair .bool .bool, [.u], [], 0, false, [], []⟩),
  (98, ⟨1, 8, false, .pair .bool .bool, [.u], [], 0, false, [], []⟩),
  (99, ⟨1, 8, false, .pair .bool .bool, [.u], [], 0, false, [], []⟩),
  (100, ⟨1, 8, false, .pair .bool .bool, [.u], [], 0, false, [], []⟩),
  (101, ⟨1, 8, false, .pair .bool .bool, [.u], [], 0, false, [], []⟩),
  (102, ⟨1, 8, false, .pair .bool .bool, [.u], [], 0, false, [], []⟩),
  (103, ⟨1, 8, false, .pair .bool .bool, [.u], [], 0, false, [], []⟩),
  (104, ⟨1, 8, false, .pair .bool .bool, [.u], [], 0, false, [], []⟩),
  (105, ⟨2, 32, true, .pair (.str) (.str), [.v .str [], .v .str []], [(9, 0), (9, 1)], 0, true, [.str, .str], []⟩),
  (106, ⟨2, 32, true, .pair (.str) (.str), [.v .str [], .v .str []], [(9, 0), (9, 1)], 0, true, [.str, .str], []⟩),
  (107, ⟨1, 8, false, .pair .bool .bool, [.u], [], 0, false, [], []⟩),
  (108, ⟨1, 8, false, .pair .bool .bool, [.u], [], 0, false, [], []⟩),
  (109, ⟨1, 8, false, .pair .bool .bool, [.u], [], 0, false, [], []⟩),
  (110, ⟨1, 8, false, .pair .bool .bool, [.u], [], 0, false, [], []⟩),
  (111, ⟨1, 8, false, .pair .bool .bool, [.u], [], 0, false, [], []⟩),
  (112, ⟨1, 8, false, .pair .bool .bool, [.u], [], 0, false, [], []⟩),
  (113, ⟨1, 8, false, .pair .bool .bool, [.u], [], 0, false, [], []⟩),
  (114, ⟨1, 8, false, .pair .bool .bool, [.u], [], 0, false, [], []⟩),
  (115, ⟨1, 8, false, .pair .bool .bool, [.u], [], 0, false, [], []⟩),
  (116, ⟨1, 8, false, .pair .bool .bool, [.u], [], 0, false, [], []⟩),
  (117, ⟨1, 8, false, .pair .bool .bool, [.u], [], 0, false, [], []⟩),
  (118, ⟨1, 8, false, .pair .bool .bool, [.u], [], 0, false, [], []⟩),
  (119, ⟨1, 8, false, .pair .bool .bool, [.u], [], 0, false, [], []⟩),
  (120, ⟨1, 8, false, .pair .bool .bool, [.u], [], 0, false, [], []⟩),
  (121, ⟨1, 8, false, .pair .bool .bool, [.u], [], 0, false, [], []⟩),
  (122, ⟨1, 8, false, .pair .bool .bool, [.u], [], 0, false, [], []⟩),
  (123, ⟨1, 8, false, .pair .bool .bool, [.u], [], 0, false, [], []⟩),
  (124, ⟨1, 8, false, .pair .bool .bool, [.u], [], 0, false, [], []⟩),
  (125, ⟨1, 8, false, .pair .bool .bool, [.u], [], 0, false, [], []⟩),
  (126, ⟨1, 8, false, .pair .bool .bool, [.u], [], 0, false, [], []⟩),
  (127, ⟨1, 8, false, .pair .bool .bool, [.u], [], 0, false, [], []⟩),
  (128, ⟨1, 8, false, .pair .bool .bool, [.u], [], 0, false, [], []⟩),
  (129, ⟨1, 8, false, .pair .bool .bool, [.u], [], 0, false, [], []⟩),
  (130, ⟨1, 8, false, .pair .bool .bool, [.u], [], 0, false, [], []⟩),
  (131, ⟨1, 8, false, .pair .bool .bool, [.u], [], 0, false, [], []⟩),
  (132, ⟨1, 8, false, .pair .bool .bool, [.u], [], 0, false, [], []⟩),
  (133, ⟨1, 8, false, .pair .bool .bool, [.u], [], 0, false, [], []⟩),
  (134, ⟨1, 8, false, .pair .bool .bool, [.u], [], 0, false, [], []⟩),
  (135, ⟨1, 8, false, .pair .bool .bool, [.u], [], 0, false, [], []⟩),
  (136, ⟨1, 8, false, .pair .bool .bool, [.u], [], 0, false, [], []⟩),
  (137, ⟨2, 32, true, .pair (.slice (.int .u8)) (.int .i64), [.emp, .v (.int .i64) (0 : Int)], [(22, 0), (3, 1)], 0, true, [], [5]⟩),
  (138, ⟨2, 32, true, .pair (.slice (.int .u8)) (.int .i64), [.emp, .v (.int .i64) (0 : Int)], [(22, 0), (3, 1)], 0, true, [], [5]⟩),
  (139, ⟨1, 8, false, .pair .bool .bool, [.u], [], 0, false, [], []⟩),
  (140, ⟨1, 8, false, .pair .bool .bool, [.u], [], 0, false, [], []⟩),
  (141, ⟨1, 8, false, .pair .bool .bool, [.u], [], 0, false, [], []⟩),
  (142, ⟨1, 8, false, .pair .bool .bool, [.u], [], 0, false, [], []⟩),
  (143, ⟨1, 8, false, .pair .bool .bool, [.u], [], 0, false, [], []⟩),
  (144, ⟨1, 8, false, .pair .bool .bool, [.u], [], 0, false, [], []⟩),
  (145, ⟨1, 8, false, .pair .bool .bool, [.u], [], 0, false, [], []⟩),
  (146, ⟨1, 8, false, .pair .bool .bool, [.u], [], 0, false, [], []⟩),
  (147, ⟨1, 8, false, .pair .bool .bool, [.u], [], 0, false, [], []⟩),
  (148, ⟨1, 8, false, .pair .bool .bool, [.u], [], 0, false, [], []⟩),
  (149, ⟨1, 8, false, .pair .bool .bool, [.u], [], 0, false, [], []⟩),
  (150, ⟨1, 8, false, .pair .bool .bool, [.u], [], 0, false, [], []⟩),
  (151, ⟨1, 8, false, .pair .bool .bool, [.u], [], 0, false, [], []⟩),
  (152, ⟨2, 32, true, .pair (.str) (.str), [.v .str [], .v .str []], [(9, 0), (9, 1)], 0, true, [.str, .str], []⟩),
  (153, ⟨1, 8, false, .pair .bool .bool, [.u], [], 0, false, [], []⟩),
  (154, ⟨5, 64, true, .pair (.str) (.pair (.int .i64) (.pair (.int .i64) (.pair (.int .i64) (.slice (.str))))), [.v .str [], .v (.int .i64) (0 : Int), .v (.int .i64) (0 : Int), .v (.int .i64) (0 : Int), .emp], [(9, 0), (3, 1), (3, 2), (3, 3), (25, 4)], 0, true, [], [9]⟩),
  (155, ⟨1, 8, false, .pair .bool .bool, [.u], [], 0, false, [], []⟩),
  (156, ⟨7, 120, true, .pair (.pair (.int .i64) (.pair (.int .i64) (.pair (.slice (.str)) (.pair (.slice (.pair (.str) (.pair (.int .i64) (.int .i64)))) (.pair (.slice (.str)) (.slice (.str))))))) (.bool), [.v (.int .i64) (0 : Int), .v (.int .i64) (0 : Int), .emp, .emp, .emp, .emp, .v .bool false], [(73, 0), (4, 6)], 0, true, [], [9, 168, 9, 9]⟩),
  (157, ⟨7, 120, true, .pair (.pair (.int .i64) (.pair (.int .i64) (.pair (.slice (.str)) (.pair (.slice (.pair (.str) (.pair (.int .i64) (.int .i64)))) (.pair (.slice (.str)) (.slice (.str))))))) (.bool), [.v (.int .i64) (0 : Int), .v (.int .i64) (0 : Int), .emp, .emp, .emp, .emp, .v .bool false], [(73, 0), (4, 6)], 0, true, [], [9, 168, 9, 9]⟩),
  (158, ⟨1, 8, false, .pair .bool .bool, [.u], [], 0, false, [], []⟩),
  (159, ⟨1, 8, false, .pair .bool .bool, [.u], [], 0, false, [], []⟩),
  (160, ⟨1, 8, false, .pair .bool .bool, [.u], [], 0, false, [], []⟩),
  (161, ⟨1, 8, false, .pair .bool .bool, [.u], [], 0, false, [], []⟩),
  (162, ⟨1, 8, false, .pair .bool .bool, [.u], [], 0, false, [], []⟩),
  (163, ⟨1, 8, false, .pair .bool .bool, [.u], [], 0, false, [], []⟩),
  (164, ⟨1, 8, false, .pair .bool .bool, [.u], [], 0, false, [], []⟩),
  (165, ⟨1, 8, false, .pair .bool .bool, [.u], [], 0, false, [], []⟩),
  (166, ⟨1, 8, false, .pair .bool .bool, [.u], [], 0, false, [], []⟩),
  (167, ⟨1, 8, false, .pair .bool .bool, [.u], [], 0, false, [], []⟩),
  (168, ⟨3, 32, true, .pair (.str) (.pair (.int .i64) (.int .i64)), [.v .str [], .v (.int .i64) (0 : Int), .v (.int .i64) (0 : Int)], [(9, 0), (3, 1), (3, 2)], 0, true, [.str, .int .i64, .int .i64], []⟩),
  (169, ⟨1, 8, false, .pair .bool .bool, [.u], [], 0, false, [], []⟩),
  (170, ⟨1, 8, false, .pair .bool .bool, [.u], [], 0, false, [], []⟩),
  (171, ⟨1, 8, false, .pair .bool .bool, [.u], [], 0, false, [], []⟩),
  (172, ⟨1, 8, false, .pair .bool .bool, [.u], [], 0, false, [], []⟩),
  (173, ⟨1, 8, false, .pair .bool .bool, [.u], [], 0, false, [], []⟩),
  (174, ⟨1, 8, false, .pair .bool .bool, [.u], [], 0, false, [], []⟩),
  (175, ⟨1, 8, false, .pair .bool .bool, [.u], [], 0, false, [], []⟩),
  (176, ⟨1, 8, false, .pair .bool .bool, [.u], [], 0, false, [], []⟩),
  (177, ⟨1, 24, false, .slice (.slice (.str)), [.emp], [], 25, true, [], []⟩),
  (178, ⟨1, 8, false, .pair .bool .bool, [.u], [], 0, false, [], []⟩),
  (179, ⟨1, 8, false, .pair .bool .bool, [.u], [], 0, false, [], []⟩),
  (180, ⟨1, 8, false, .pair .bool .bool, [.u], [], 0, false, [], []⟩),
  (181, ⟨1, 8, false, .pair .bool .bool, [.u], [], 0, false, [], []⟩),
  (182, ⟨1, 8, false, .pair .bool .bool, [.u], [], 0, false, [], []⟩),
  (183, ⟨1, 8, false, .pair .bool .bool, [.u], [], 0, false, [], []⟩),
  (184, ⟨1, 8, false, .int .u64, [.v (.int .u64) (0 : Int)], [], 0, true, [], []⟩),
  (185, ⟨1, 8, false, .pair .bool .bool, [.u], [], 0, false, [], []⟩),
  (186, ⟨1, 8, false, .int .i64, [.v (.int .i64) (0 : Int)], [], 0, true, [], []⟩),
  (188, ⟨1, 8, false, .pair .bool .bool, [.u], [], 0, false, [], []⟩),
  (189, ⟨1, 8, false, .pair .bool .bool, [.u], [], 0, false, [], []⟩),
  (190, ⟨1, 8, false, .pair .bool .bool, [.u], [], 0, false, [], []⟩),
  (191, ⟨1, 8, false, .pair .bool .bool, [.u], [], 0, false, [], []⟩),
  (193, ⟨1, 8, false, .pair .bool .bool, [.u], [], 0, false, [], []⟩),
  (194, ⟨1, 8, false, .pair .bool .bool, [.u], [], 0, false, [], []⟩),
  (195, ⟨1, 4, false, .int .u32, [.v (.int .u32) (0 : Int)], [], 0, true, [], []⟩),
  (196, ⟨1, 8, false, .pair .bool .bool, [.u], [], 0, false, [], []⟩),
  (197, ⟨1, 8, false, .int .u64, [.v (.int .u64) (0 : Int)], [], 0, true, [], []⟩),
  (198, ⟨1, 8, false, .int .u64, [.v (.int .u64) (0 : Int)], [], 0, true, [], []⟩),
  (199, ⟨1, 8, false, .pair .bool .bool, [.u], [], 0, false, [], []⟩),
  (200, ⟨1, 8, false, .pair .bool .bool, [.u], [], 0, false, [], []⟩),
  (201, ⟨1, 8, false, .pair .bool .bool, [.u], [], 0, false, [], []⟩),
  (202, ⟨1, 8, false, .pair .bool .bool, [.u], [], 0, false, [], []⟩),
  (203, ⟨1, 8, false, .pair .bool .bool, [.u], [], 0, false, [], []⟩),
  (204, ⟨1, 8, false, .pair .bool .bool, [.u], [], 0, false, [], []⟩),
  (206, ⟨1, 8, false, .pair .bool .bool, [.u], [], 0, false, [], []⟩),
  (207, ⟨1, 8, false, .pair .bool .bool, [.u], [], 0, false, [], []⟩),
  (208, ⟨4, 40, true, .pair .bool .bool, [.u, .u, .u, .v .str []], [(17, 0), (17, 1), (17, 2), (9, 3)], 0, false, [], []⟩),
  (209, ⟨4, 40, true, .pair .bool .bool, [.u, .u, .u, .v .str []], [(17, 0), (17, 1), (17, 2), (9, 3)], 0, false, [], []⟩),
  (213, ⟨1, 8, false, .pair .bool .bool, [.u], [], 0, false, [], []⟩),
  (214, ⟨1, 1, false, .int .u8, [.v (.int .u8) (0 : Int)], [], 0, true, [], []⟩),
  (215, ⟨1, 1, false, .int .u8, [.v (.int .u8) (0 : Int)], [], 0, true, [], []⟩),
  (216, ⟨1, 8, false, .pair .bool .bool, [.u], [], 0, false, [], []⟩),
  (217, ⟨1, 8, false, .pair .bool .bool, [.u], [], 0, false, [], []⟩),
  (218, ⟨1, 4, false, .int .i32, [.v (.int .i32) (0 : Int)], [], 0, true, [], []⟩),
  (219, ⟨1, 4, false, .int .i32, [.v (.int .i32) (0 : Int)], [], 0, true, [], []⟩),
  (220, ⟨11, 48, true, .pair .bool .bool, [.v (.int .u64) (0 : Int), .v (.int .u64) (0 : Int), .v (.int .u32) (0 : Int), .v (.int .u8) (0 : Int), .v (.int .u8) (0 : Int), .v (.int .u8) (0 : Int), .v (.int .u8) (0 : Int), .u, .u, .v (.int .i32) (0 : Int), .v (.int .i32) (0 : Int)], [(12, 0), (12, 1), (195, 2), (214, 3), (5, 4), (5, 5), (215, 6), (216, 7), (217, 8), (218, 9), (219, 10)], 0, false, [], []⟩),
  (221, ⟨11, 48, true, .pair .bool .bool, [.v (.int .u64) (0 : Int), .v (.int .u64) (0 : Int), .v (.int .u32) (0 : Int), .v (.int .u8) (0 : Int), .v (.int .u8) (0 : Int), .v (.int .u8) (0 : Int), .v (.int .u8) (0 : Int), .u, .u, .v (.int .i32) (0 : Int), .v (.int .i32) (0 : Int)], [(12, 0), (12, 1), (195, 2), (214, 3), (5, 4), (5, 5), (215, 6), (216, 7), (217, 8), (218, 9), (219, 10)], 0, false, [], []⟩),
  (222, ⟨1, 8, false, .pair .bool .bool, [.u], [], 0, false, [], []⟩)]
theorem tabOK : TTok Tryz.prog (tabOf tabL) := tab_ok (by kernel_rfl)
theorem mixed : Tryz.prog.follows .mixedOrders = true := Tryz.checked.mixed
end Go.MC

namespace Go.Proofs
open Go.Shelf
def Tryz.lays192_ren : Go.Shelf.Ren := ⟨fun | 192 => 140 | 190 => 177 | 125 => 183 | 258 => 182 | 128 => 193 | 129 => 194 | 302 => 184 | 303 => 185 | 304 => 186 | 305 => 187 | 306 => 188 | 307 => 189 | 308 => 190 | 309 => 191 | 310 => 192 | 333 => 195 | 329 => 196 | 330 => 197 | 334 => 198 | 335 => 199 | 336 => 200 | 344 => 201 | n => n, fun | 31 => 25 | 0 => 0 | 9 => 9 | 3 => 3 | 46 => 184 | 51 => 195 | 53 => 197 | 4 => 4 | 183 => 187 | 182 => 186 | 131 => 192 | 5 => 5 | 218 => 198 | 222 => 202 | 228 => 204 | 229 => 205 | n => n, fun | n => n⟩
theorem Tryz.lays192 : Go.Proofs.Lays.n192 Tryz.prog Tryz.lays192_ren := {
  mixed := by kernel_rfl
  f125 := Tryz.func183.trans (congrArg some (by kernel_rfl))
  f128 := Tryz.func193.trans (congrArg some (by kernel_rfl))
  f129 := Tryz.func194.trans (congrArg some (by kernel_rfl))
  f190 := Tryz.func177.trans (congrArg some (by kernel_rfl))
  f192 := Tryz.func140.trans (congrArg some (by kernel_rfl))
  f258 := Tryz.func182.trans (congrArg some (by kernel_rfl))
  f302 := Tryz.func184.trans (congrArg some (by kernel_rfl))
  f303 := Tryz.func185.trans (congrArg some (by kernel_rfl))
  f304 := Tryz.func186.trans (congrArg some (by kernel_rfl))
  f305 := Tryz.func187.trans (congrArg some (by kernel_rfl))
  f306 := Tryz.func188.trans (congrArg some (by kernel_rfl))
  f307 := Tryz.func189.trans (congrArg some (by kernel_rfl))
  f308 := Tryz.func190.trans (congrArg some (by kernel_rfl))
  f309 := Tryz.func191.trans (congrArg some (by kernel_rfl))
  f310 := Tryz.func192.trans (congrArg some (by kernel_rfl))
  f329 := Tryz.func196.trans (congrArg some (by kernel_rfl))
  f330 := Tryz.func197.trans (congrArg some (by kernel_rfl))
  f333 := Tryz.func195.trans (congrArg some (by kernel_rfl))
  f334 := Tryz.func198.trans (congrArg some (by kernel_rfl))
  f335 := Tryz.func199.trans (congrArg some (by kernel_rfl))
  f336 := Tryz.func200.trans (congrArg some (by kernel_rfl))
  f344 := Tryz.func201.trans (congrArg some (by kernel_rfl))
  t0 := Tryz.underlying0
  a0 := Tryz.isAgg0
  z0 := Tryz.sizeOf0
  v0 := Tryz.zeroValue0
  t3 := Tryz.underlying3
  a3 := Tryz.isAgg3
  z3 := Tryz.sizeOf3
  v3 := Tryz.zeroValue3
  t4 := Tryz.underlying4
  a4 := Tryz.isAgg4
  z4 := Tryz.sizeOf4
  v4 := Tryz.zeroValue4
  t5 := Tryz.underlying5
  a5 := Tryz.isAgg5
  z5 := Tryz.sizeOf5
  v5 := Tryz.zeroValue5
  t9 := Tryz.underlying9
  a9 := Tryz.isAgg9
  z9 := Tryz.sizeOf9
  v9 := Tryz.zeroValue9
  t31 := Tryz.underlying25
  a31 := Tryz.isAgg25
  z31 := Tryz.sizeOf25
  v31 := Tryz.zeroValue25
  t46 := Tryz.underlying184
  a46 := Tryz.isAgg184
  z46 := Tryz.sizeOf184
  v46 := Tryz.zeroValue184
  t51 := Tryz.underlying195
  a51 := Tryz.isAgg195
  z51 := Tryz.sizeOf195
  v51 := Tryz.zeroValue195
  t53 := Tryz.underlying197
  a53 := Tryz.isAgg197
  z53 := Tryz.sizeOf197
  v53 := Tryz.zeroValue197
  t131 := Tryz.underlying192
  a131 := Tryz.isAgg192
  z131 := Tryz.sizeOf192
  v131 := Tryz.zeroValue192
  t182 := Tryz.underlying186
  a182 := Tryz.isAgg186
  z182 := Tryz.sizeOf186
  v182 := Tryz.zeroValue186
  t183 := Tryz.underlying187
  a183 := Tryz.isAgg187
  z183 := Tryz.sizeOf187
  v183 := Tryz.zeroValue187
  t218 := Tryz.underlying198
  a218 := Tryz.isAgg198
  z218 := Tryz.sizeOf198
  v218 := Tryz.zeroValue198
  t222 := Tryz.underlying202
  a222 := Tryz.isAgg202
  z222 := Tryz.sizeOf202
  v222 := Tryz.zeroValue202
  t228 := Tryz.underlying204
  a228 := Tryz.isAgg204
  z228 := Tryz.sizeOf204
  v228 := Tryz.zeroValue204
  t229 := Tryz.underlying205
  a229 := Tryz.isAgg205
  z229 := Tryz.sizeOf205
  v229 := Tryz.zeroValue205 }
open Go.Sort Go.RowKit in
theorem Tryz.sort_Strings (blk off cap : Nat) (ss : List (List UInt8)) (w : World) (hH : Holds encStr w blk off ss.toArray) (hblk : blk < w.heap.size) (hsz : ss.length < 4611686018427387904) :
    Calls Tryz.prog 140 #[.slice (some ⟨blk, off, none⟩) ss.length cap] w fun e w' =>
      e = .returned (.tuple #[]) ∧ ∃ n os, w' = grow (putRow encStr (Sort.ahead w n) blk off (ss.mergeSort fun x y => decide (x ≤ y)).toArray) os := Any.sort_Strings Tryz.lays192 blk off cap ss w hH hblk hsz
def Tryz.lays194_ren : Go.Shelf.Ren := ⟨fun | 194 => 141 | n => n, fun | 31 => 25 | 9 => 9 | 3 => 3 | 4 => 4 | 0 => 0 | n => n, fun | n => n⟩
theorem Tryz.lays194 : Go.Proofs.Lays.n194 Tryz.prog Tryz.lays194_ren := {
  mixed := by kernel_rfl
  f194 := Tryz.func141.trans (congrArg some (by kernel_rfl))
  t0 := Tryz.underlying0
  a0 := Tryz.isAgg0
  z0 := Tryz.sizeOf0
  v0 := Tryz.zeroValue0
  t3 := Tryz.underlying3
  a3 := Tryz.isAgg3
  z3 := Tryz.sizeOf3
  v3 := Tryz.zeroValue3
  t4 := Tryz.underlying4
  a4 := Tryz.isAgg4
  z4 := Tryz.sizeOf4
  v4 := Tryz.zeroValue4
  t9 := Tryz.underlying9
  a9 := Tryz.isAgg9
  z9 := Tryz.sizeOf9
  v9 := Tryz.zeroValue9
  t31 := Tryz.underlying25
  a31 := Tryz.isAgg25
  z31 := Tryz.sizeOf25
  v31 := Tryz.zeroValue25 }
open Go.RowKit Go.Lib Go.Sort in
theorem Tryz.slices_Compact_string (blk off cap : Nat) (zs : List (List UInt8)) (w : World) (hH : Holds encStr w blk off zs.toArray) (hsz : zs.length ≤ 9223372036854775807) (hcap : zs.length ≤ cap) :
    Calls Tryz.prog 141 #[.slice (some ⟨blk, off, none⟩) zs.length cap] w fun e w' => e = .returned (.slice (some ⟨blk, off, none⟩) (Lib.compact zs).length cap) ∧ ∃ q, w' = putRow encStr (Sort.ahead w q) blk off (Lib.compact zs ++ List.replicate (zs.length - (Lib.compact zs).length) []).toArray := Any.slices_Compact_string Tryz.lays194 blk off cap zs w hH hsz hcap
open Go.RowKit Go.Lib Go.Sort in
theorem Tryz.slices_Compact_string_empty (a : Option Addr) (cap : Nat) (w : World) :
    Calls Tryz.prog 141 #[.slice a 0 cap] w fun e w' => e = .returned (.slice a 0 cap) ∧ w' = w := Any.slices_Compact_string_empty Tryz.lays194 a cap w
open Go.RowKit Go.Sort in
theorem Tryz.sort_Strings_none (p : Option Addr) (cap : Nat) (w : World) :
    Calls Tryz.prog 140 #[.slice p 0 cap] w fun e w' => e = .returned (.tuple #[]) ∧ w' = w := Any.sort_Strings_none Tryz.lays192 p cap w
end Go.Proofs

set_option linter.unusedVariables false
set_option pp.deepTerms true
namespace Go.MC
open Go.Proofs Go.RowKit Go.Lib Go.Shelf
theorem run_clear_rows {P : Program} (w : World) (t e ty : TypeId) (z : Value) (sz : Nat) (ht : P.underlying t = some (.slice e)) (hv : ∀ w, (zeroValue e).run P w = .ok z w) (b o n c : Nat) (hn : 0 < n) (hzl : (Builtin.zeroCells z.cells n).toList.length = n * sz) (h1 : ∀ u ∈ (Builtin.zeroCells z.cells n).toList, u.oneCell' = true)
    (hc : ∀ j, j < n * sz → (w.cell? ⟨b, o + j, none⟩).isSome = true) (hf : ∀ j, j < n * sz → w.frozen? ⟨b, o + j, none⟩ = false) :
    (Builtin.clear_ #[t] ty #[.slice (some ⟨b, o, none⟩) n c]).run P w = .ok (.tuple #[]) (w.setCells b o (Builtin.zeroCells z.cells n).toList) := by
  have hst := run_storeCells_cells (P := P) b o (Builtin.zeroCells z.cells n).toList 0 w (by simpa [hzl] using hc) (by simpa [hzl] using hf) h1
  simp only [Nat.add_zero] at hst
  obtain ⟨m, rfl⟩ : ∃ m, n = m + 1 := ⟨n - 1, by omega⟩
  simp only [Builtin.clear_]
  simp [run_underlying ht, hv, hst]
theorem info94 : (Tryz.prog.info? 94).map (fun i => (i.zero, i.size, i.bytes)) = some (some (.agg #[.int .i64 0, .int .i64 0, .slice none 0 0, .slice none 0 0, .slice none 0 0, .slice none 0 0, .bool false]), 7, 120) := by kernel_rfl
def z94 : Value := .agg #[.int .i64 0, .int .i64 0, .slice none 0 0, .slice none 0 0, .slice none 0 0, .slice none 0 0, .bool false]
def zs94 : List Value := [.int .i64 0, .int .i64 0, .slice none 0 0, .slice none 0 0, .slice none 0 0, .slice none 0 0, .bool false]
theorem zc94 : (Builtin.zeroCells z94.cells 1).toList = zs94 := by kernel_rfl
set_option maxHeartbeats 4000000 in
set_option maxRecDepth 1000000 in
theorem del_walk (blk cap m i : Nat) (cs : List Value) (w : World) (hc : ∀ t u, cs[t]? = some u → w.cell? ⟨blk, t, none⟩ = some u) (hf : ∀ t, t < cs.length → w.frozen? ⟨blk, t, none⟩ = false) (h1 : ∀ t u, t < (m + 1) * 7 → cs[t]? = some u → u.oneCell' = true) (hl : cs.length = cap * 7) (hm : m + 1 ≤ cap) (hM : cap ≤ 9223372036854775807) (hi : i ≤ m) :
    Calls Tryz.prog 59 #[.slice (some ⟨blk, 0, none⟩) (m + 1) cap, .int .i64 i, .int .i64 ((i : Int) + 1)] w fun e w' => e = .returned (.slice (some ⟨blk, 0, none⟩) m cap) ∧ w' = (w.drew.setCells blk (i * 7) ((cs.take ((m + 1) * 7)).drop ((i + 1) * 7))).setCells blk (m * 7) zs94 := by
  obtain ⟨i0, hi0, hz0, hz1, hz2⟩ := info_parts info94
  obtain ⟨news, hnews⟩ : ∃ news, news = (cs.take ((m + 1) * 7)).drop ((i + 1) * 7) := ⟨_, rfl⟩
  have hlen : news.length = (m - i) * 7 := by rw [hnews]; simp; omega
  have hget : ∀ t u, news[t]? = some u → cs[(i + 1) * 7 + t]? = some u := by
    intro t u hu
    rw [hnews, List.getElem?_drop, List.getElem?_take] at hu
    split at hu
    · exact hu
    · cases hu
  obtain ⟨A, hA, hsrc⟩ : ∃ A : Addr, (if cap = i + 1 then some (⟨blk, 0, none⟩ : Addr) else some ⟨blk, (i + 1) * 7, none⟩) = some A ∧ Hid (∀ t u, news[t]? = some u → w.drew.cell? (A.add t) = some u) := by
    by_cases h : cap = i + 1
    · refine ⟨⟨blk, 0, none⟩, by simp [h], fun t u hu => ?_⟩
      have h0 : news.length = 0 := by rw [hlen]; omega
      rw [List.length_eq_zero_iff.1 h0] at hu
      simp at hu
    · refine ⟨⟨blk, (i + 1) * 7, none⟩, by simp [h], fun t u hu => ?_⟩
      rw [Addr.add_lit]
      exact hc _ u (hget t u hu)
  have s1 : Hid (news.length = (m - i) * 7) := hlen
  have s2 : Hid (∀ u ∈ news, u.oneCell' = true) := by
    intro u hu
    obtain ⟨t, ht⟩ := List.getElem?_of_mem hu
    have hlt := (List.getElem?_eq_some_iff.1 ht).1
    exact h1 _ u (by omega) (hget t u ht)
  have s3 : Hid (∀ t, t < news.length → (w.drew.cell? ⟨blk, 0 + i * 7 + t, none⟩).isSome = true ∧ w.drew.frozen? ⟨blk, 0 + i * 7 + t, none⟩ = false) := by
    intro t ht
    rw [hlen] at ht
    rw [Nat.zero_add]
    have hlt : i * 7 + t < cs.length := by omega
    exact ⟨by show (w.cell? _).isSome = true; rw [hc (i * 7 + t) _ (List.getElem?_eq_getElem hlt)]; rfl, hf _ hlt⟩
  obtain ⟨W1, hW1⟩ : ∃ W1, W1 = w.drew.setCells blk (0 + i * 7) news := ⟨_, rfl⟩
  have hcell : ∀ t, t < 7 → (W1.cell? ⟨blk, m * 7 + t, none⟩).isSome = true := by
    intro t ht
    have hlt : m * 7 + t < cs.length := by omega
    have h0 : (w.drew.cell? ⟨blk, m * 7 + t, none⟩).isSome = true := by show (w.cell? _).isSome = true; rw [hc _ _ (List.getElem?_eq_getElem hlt)]; rfl
    rw [hW1, World.cell?_setCells_out blk news (0 + i * 7) w.drew _ (fun _ _ => .inr (by rw [hlen]; show _ ≤ m * 7 + t; omega))]
    exact h0
  have hfro : ∀ t, t < 7 → W1.frozen? ⟨blk, m * 7 + t, none⟩ = false := by
    intro t ht
    rw [hW1, World.frozen?_setCells]
    exact hf _ (by omega)
  have hcl : ∀ ty c, (Builtin.clear_ #[26] ty #[.slice (some ⟨blk, m * 7, none⟩) 1 c]).run Tryz.prog W1 = .ok (.tuple #[]) (W1.setCells blk (m * 7) zs94) := by
    intro ty c
    have := run_clear_rows (P := Tryz.prog) W1 26 94 ty z94 7 Tryz.underlying26 Tryz.zeroValue94 blk (m * 7) 1 c (by omega) (by rw [zc94]; rfl) (by
      rw [zc94]
      intro u hu
      simp only [zs94, List.mem_cons, List.not_mem_nil, or_false] at hu
      rcases hu with rfl | rfl | rfl | rfl | rfl | rfl | rfl <;> rfl) (by simpa using hcell) (by simpa using hfro)
    rw [zc94] at this
    exact this
  have hW : Hid (W1 = w.drew.setCells blk (0 + i * 7) news) := hW1
  have hx : W1 = w.drew.setCells blk (i * 7) ((cs.take ((m + 1) * 7)).drop ((i + 1) * 7)) := by rw [hW1, Nat.zero_add, hnews]
  have X : Aside (W1 = w.drew.setCells blk (i * 7) ((cs.take ((m + 1) * 7)).drop ((i + 1) * 7))) := hx
  have hic : i ≤ cap := by omega
  have hp0 : (0 : Int) ≤ (i : Int) + 1 := by omega
  have hp1 : (i : Int) + 1 ≤ ((m + 1 : Nat) : Int) := by omega
  have hp2 : ((i : Int) + 1).toNat = i + 1 := by omega
  have hjc : i + 1 ≤ cap := by omega
  clear hx hW1 hcell hfro hc hf h1 hget hnews hlen
  go_enter Tryz.func59, Tryz.ntmps59
  go_wp2_with fail
  · go_region_law (refine step_append_room rfl (.tmp 22) (.tmp 25) 26 rfl 94 i0 7 Tryz.underlying26 hi0 hz1 blk 0 i cap (by simp [Act.eval, Act.put]) A (m - i) (cap - (i + 1)) news (by simp [Act.eval, Act.put]) s1.out hsrc.out s2.out (by omega) s3.out ?_; rw [← hW.out])
    go_wp2
    go_ret
    exact ⟨rfl, by rw [X.out]⟩
theorem setCells_block (P : Program) {w : World} {g off : Nat} {cur : List Value} {T : TypeId} (hg : w.heap[g]? = some (.cells cur.toArray T (0, 0))) {vs : List Value} (hfit : off + vs.length ≤ cur.length) (h1 : ∀ v ∈ vs, v.oneCell' = true) :
    (w.setCells g off vs).heap[g]? = some (.cells (cur.take off ++ (vs ++ cur.drop (off + vs.length))).toArray T (0, 0)) ∧ w.grownBy (w.setCells g off vs) (some g) := by
  obtain ⟨w', hr, h2, h3, h4, h5, h6, h7⟩ := store_cells P hg hfit h1
  have hrun := run_storeCells_cells (P := P) g off vs 0 w (fun j hj => by
    rw [Nat.add_zero]
    simp only [World.cell?, hg, Option.isSome_none, Bool.false_eq_true, if_false, List.getElem?_toArray]
    rw [List.getElem?_eq_getElem (by omega)]; rfl) (fun j hj => by simp [World.frozen?, hg]) h1
  rw [Nat.add_zero] at hrun
  have e : w' = w.setCells g off vs := by
    have := hr.symm.trans hrun
    injection this
  rw [← e]
  exact ⟨h2, h5, h6, h7, by omega, fun c hc hne => h4 c fun e => hne (by rw [e])⟩
theorem one_zs : ∀ u ∈ zs94, u.oneCell' = true := by
  intro u hu
  simp only [zs94, List.mem_cons, List.not_mem_nil, or_false] at hu
  rcases hu with rfl | rfl | rfl | rfl | rfl | rfl | rfl <;> rfl
theorem lib_del : LibOK Tryz.prog 59 (.delR 94 7) := by
  refine ⟨enters_of Tryz.func59 (by kernel_rfl) rfl, fun blk cap m i cur w hg hsz hi hm hM h1 => ?_⟩
  have hcs : cur.toList.length = cap * 7 := by simpa using hsz
  have hM' : cap ≤ 9223372036854775807 := hM
  refine (del_walk blk cap m i cur.toList w (fun t u hu => ?_) (fun t ht => ?_) h1 hcs hm hM' hi).mono ?_
  · simp only [World.cell?, hg, Option.isSome_none, Bool.false_eq_true, if_false]
    rw [← Array.getElem?_toList]; exact hu
  · simp [World.frozen?, hg]
  · rintro r w' ⟨rfl, rfl⟩
    obtain ⟨news, hnews⟩ : ∃ news, news = (cur.toList.take ((m + 1) * 7)).drop ((i + 1) * 7) := ⟨_, rfl⟩
    have hlen : news.length = (m - i) * 7 := by rw [hnews]; simp; omega
    have hone : ∀ u ∈ news, u.oneCell' = true := by
      intro u hu
      obtain ⟨t, ht⟩ := List.getElem?_of_mem hu
      have hlt := (List.getElem?_eq_some_iff.1 ht).1
      rw [hnews, List.getElem?_drop, List.getElem?_take] at ht
      split at ht
      · exact h1 _ u (by omega) ht
      · cases ht
    rw [← hnews]
    obtain ⟨a1, a2⟩ := setCells_block Tryz.prog (w := w.drew) (g := blk) (off := i * 7) (cur := cur.toList) (T := 94) (by rw [Array.toArray_toList]; exact hg) (vs := news) (by omega) hone
    have hl2 : (cur.toList.take (i * 7) ++ (news ++ cur.toList.drop (i * 7 + news.length))).length = cap * 7 := by simp; omega
    obtain ⟨b1, b2⟩ := setCells_block Tryz.prog (g := blk) (off := m * 7) (T := 94) a1 (vs := zs94) (by rw [hl2]; show m * 7 + 7 ≤ _; omega) one_zs
    refine ⟨rfl, _, b1, ?_, ?_, ?_⟩
    · rw [List.size_toArray]
      have : zs94.length = 7 := rfl
      simp only [List.length_append, List.length_take, List.length_drop, this] at hl2 ⊢
      omega
    · have e1 : (cur.toList.take (i * 7) ++ (news ++ cur.toList.drop (i * 7 + news.length))).take (m * 7) = cur.toList.take (i * 7) ++ news := by
        rw [← List.append_assoc]
        exact List.take_left' (by simp; omega)
      rw [show (List.toArray _).toList = _ from rfl, e1]
      exact List.take_left' (by simp; omega)
    · exact ⟨b2.os.trans a2.os, b2.tape.trans a2.tape, b2.output.trans a2.output, Nat.le_trans a2.size b2.size, fun c hc hne => (b2.block c (Nat.lt_of_lt_of_le hc a2.size) hne).trans (a2.block c hc hne)⟩
end Go.MC

set_option linter.unusedVariables false
namespace Go.MC
open Go.Proofs Go.Shelf
def libL : List (Nat × LibK) := [(140, .sortS), (141, .compS), (59, .delR 94 7)]
theorem lib_sort : LibOK Tryz.prog 140 .sortS := ⟨enters_of Tryz.func140 (by kernel_rfl) rfl, fun blk off cap ss w h1 h2 h3 => Tryz.sort_Strings blk off cap ss w h1 h2 h3, fun p cap w => Tryz.sort_Strings_none p cap w⟩
theorem lib_comp : LibOK Tryz.prog 141 .compS := ⟨enters_of Tryz.func141 (by kernel_rfl) rfl, fun blk off cap zs w h1 h2 h3 => Tryz.slices_Compact_string blk off cap zs w h1 h2 h3, fun a cap w => Tryz.slices_Compact_string_empty a cap w⟩
theorem libs_ok : LibsOK Tryz.prog libL := And.intro lib_sort (And.intro lib_comp (And.intro lib_del trivial))
def inlS : Inl := inlL libL
theorem inlS_ok : InlOK Tryz.prog inlS := inlL_ok (lkL_all libs_ok)
end Go.MC


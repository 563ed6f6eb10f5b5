/- Part 2 of the texts of the claim FnExactClaimShut: an interpreter of the translated code over data, proved sound; the contracts of the functions; the same in plain words. -/
import Derived.Test.YtaihjhaabnfenaamFnExactClaimShut1
import Derived.SizedLaws
import Derived.OpenShut
import Derived.Carry
import Derived.Sort.OwnSorted
import Derived.Lib.SlicesCompact
import Derived.Test.YtaihjhaabnfenaaChecked
/- A call by its summary does as it says (general). -/
set_option linter.unusedVariables false
set_option linter.unusedSimpArgs false
namespace Go.MC
open Go.RowKit

theorem lkH_none {l : List (Nat × Ob)} {i : Nat} (h : i ∉ l.map (·.1)) : lkH l i = none := by
  cases ho : lkH l i with
  | none => rfl
  | some o => exact absurd (List.mem_map.2 ⟨_, lkH_some ho, rfl⟩) h

theorem flatMap_inj {α : Type} {f : α → List Nat} : ∀ {l : List α}, (l.flatMap f).Nodup → ∀ {x y : α} {c : Nat}, x ∈ l → y ∈ l → c ∈ f x → c ∈ f y → x = y
  | [], _, x, y, c, hx, _, _, _ => by simp at hx
  | z :: l, hn, x, y, c, hx, hy, h1, h2 => by
    rw [List.flatMap_cons] at hn
    obtain ⟨_, hn2, hn3⟩ := List.nodup_append.1 hn
    rcases List.mem_cons.1 hx with hx' | hx'
    · rcases List.mem_cons.1 hy with hy' | hy'
      · rw [hx', hy']
      · rw [hx'] at h1
        exact absurd rfl (hn3 c h1 c (List.mem_flatMap.2 ⟨y, hy', h2⟩))
    · rcases List.mem_cons.1 hy with hy' | hy'
      · rw [hy'] at h2
        exact absurd rfl (hn3 c h2 c (List.mem_flatMap.2 ⟨x, hx', h1⟩))
      · exact flatMap_inj hn2 hx' hy' h1 h2
theorem nodup_of_flatMap {α : Type} {f : α → List Nat} : ∀ {l : List α}, (l.flatMap f).Nodup → ∀ {x : α}, x ∈ l → (f x).Nodup
  | [], _, x, hx => by simp at hx
  | z :: l, hn, x, hx => by
    rw [List.flatMap_cons] at hn
    obtain ⟨hn1, hn2, _⟩ := List.nodup_append.1 hn
    rcases List.mem_cons.1 hx with hx' | hx'
    · rw [hx']; exact hn1
    · exact nodup_of_flatMap hn2 hx'

theorem objR_of {F : Fx} {k : K} {id e : Nat} {r : Ty} {xs : List r.den} {us : List Value} {o : Option (List Nat)} {bl : List Nat} (h1 : OwnsR k.w (F.bs id) e r.sz (k.ν id) xs.length us) (h2 : RowsO k.w (k.ok F) (F.bs id) r o xs us bl) (h3 : xs.length ≤ lim) (h4 : k.nb id = bl) (h5 : ((ownB (k.ν id)).toList ++ bl).Nodup) : objR F k id (.arr e r xs (dpO o)) := by
  cases o with
  | none => exact ⟨us, h1, h2.1, h3⟩
  | some ns => exact ⟨us, us, h1, by rw [h4]; exact h2, h3, by rw [h4]; exact h5, rfl⟩
theorem own_sub {k : K} {id e : Nat} {r : Ty} {xs : List r.den} {o : Option (List Nat)} (h : k.h id = some (.arr e r xs (dpO o))) {c : Nat} (hc : k.own id c) : c ∈ (ownB (k.ν id)).toList ++ k.nb id := by
  cases o with
  | none => exact List.mem_append.2 (.inl (by simpa using (own_no h).1 hc))
  | some ns => simpa using (own_yes h).1 hc

/-- Nested blocks lie where their array's do. -/
theorem RowsO.base_of {w : World} {ok : Nat → Prop} {base base' : Nat} {r : Ty} {o : Option (List Nat)} : ∀ {xs : List r.den} {us : List Value} {bl : List Nat}, RowsO w ok base r o xs us bl → (∀ b ∈ bl, base' ≤ b) → RowsO w ok base' r o xs us bl := by
  have row : ∀ {t : Ty} {x : t.den} {es : List Nat} {vs : List Value} {es' os : List Nat}, OwnRd w ok base t x es vs es' os → (∀ b ∈ os, base' ≤ b) → OwnRd w ok base' t x es vs es' os := by
    intro t
    induction t with
    | bool => exact fun h _ => h
    | int k => exact fun h _ => h
    | str => exact fun h _ => h
    | slice r ih =>
      rintro x es vs es' os ⟨e, v, us, h1, h2, h3, h4, h5, rfl⟩ hb
      refine ⟨e, v, us, h1, h2, ⟨h3.1, ?_⟩, h4, h5, rfl⟩
      rcases h3.2 with hn | ⟨g, cap, cur, rfl, hc, _, rest⟩
      · exact .inl hn
      · exact .inr ⟨g, cap, cur, rfl, hc, hb g (by rw [ownB_pos hc]; simp), rest⟩
    | pair a b iha ihb =>
      rintro x es vs es' os ⟨v1, v2, es1, o1, o2, rfl, h1, h2, rfl⟩ hb
      exact ⟨v1, v2, es1, o1, o2, rfl, iha h1 fun b hb' => hb b (List.mem_append.2 (.inl hb')), ihb h2 fun b hb' => hb b (List.mem_append.2 (.inr hb')), rfl⟩
  cases o with
  | none => intro xs us bl h hb; exact h
  | some ns =>
    have rows : ∀ {xs : List r.den} {us : List Value} {bl : List Nat}, OwnRows w ok base r ns xs us bl → (∀ b ∈ bl, base' ≤ b) → OwnRows w ok base' r ns xs us bl := by
      intro xs
      induction xs with
      | nil => exact fun h _ => h
      | cons x xs ih =>
        rintro us bl ⟨v1, v2, o1, o2, rfl, h1, h2, rfl⟩ hb
        exact ⟨v1, v2, o1, o2, rfl, row h1 fun b hb' => hb b (List.mem_append.2 (.inl hb')), ih h2 fun b hb' => hb b (List.mem_append.2 (.inr hb')), rfl⟩
    intro xs us bl h hb
    exact rows h hb
theorem OwnsR.base_of {w : World} {base base' e size n : Nat} {v : Value} {xs : List Value} (h : OwnsR w base e size v n xs) (hb : ∀ b, ownB v = some b → base' ≤ b) : OwnsR w base' e size v n xs := by
  refine ⟨h.1, ?_⟩
  rcases h.2 with hn | ⟨g, cap, cur, rfl, hc, _, rest⟩
  · exact .inl hn
  · exact .inr ⟨g, cap, cur, rfl, hc, hb g (ownB_pos hc), rest⟩

theorem find_newO : ∀ {news : List NewO}, (news.map NewO.n).Nodup → ∀ {x : NewO}, x ∈ news → news.find? (fun y => Nat.beq y.n x.n) = some x
  | [], _, x, h => by simp at h
  | z :: news, hn, x, h => by
    simp only [List.map_cons, List.nodup_cons] at hn
    rw [List.find?_cons]
    rcases List.mem_cons.1 h with rfl | h
    · simp [Nat.beq_refl]
    · have : Nat.beq z.n x.n = false := by
        cases hb : Nat.beq z.n x.n with
        | false => rfl
        | true =>
          have := Nat.eq_of_beq_eq_true hb
          exact absurd (List.mem_map.2 ⟨x, h, this.symm⟩) hn.1
      rw [this]
      exact find_newO hn.2 h

theorem call_core {F : Fx} {k : K} (hk : HeapOK F k) {okc : Nat → Prop} (hsub : ∀ c, okc c → k.ok F c) {bxs : List (Nat × Hd)} (hbx : ∀ p ∈ bxs, HdIn k p) (hbn : (bxs.map (·.1)).Nodup) {w' : World} {os bs' : List Nat} {b : List (Nat × Ob)} {nbn : Nat → List Nat} {news : List NewO}
    (hsz : k.w.heap.size ≤ w'.heap.size) (hfr : ∀ c, c < k.w.heap.size → c ∉ bxs.flatMap (bsK k) → w'.heap[c]? = k.w.heap[c]?) (hos : w'.os = k.w.os) (htp : w'.tape = k.w.tape) (hou : w'.output = k.w.output)
    (hon : (os ++ bs').Nodup) (hor : ∀ c ∈ os, c ∈ bxs.flatMap (bsK k) ∨ (k.w.heap.size ≤ c ∧ c < w'.heap.size)) (hbr : ∀ c ∈ bs', c ∈ bxs.flatMap (bsK k) ∨ (k.w.heap.size ≤ c ∧ c < w'.heap.size))
    (hbk : b.map (·.1) = bxs.map (·.1)) (hb : ∀ p ∈ b, BackR w' (fun c => okc c ∨ ((k.w.heap.size ≤ c ∨ c ∈ bxs.flatMap (bsK k)) ∧ c < w'.heap.size ∧ c ∉ os ++ bs')) k nbn bxs p) (hbs : bs' = b.flatMap (backB k nbn))
    (hfresh : ∀ x ∈ news, k.h x.n = none) (hnn : (news.map NewO.n).Nodup) (hnew : ∀ x ∈ news, NewR w' (fun c => okc c ∨ ((k.w.heap.size ≤ c ∨ c ∈ bxs.flatMap (bsK k)) ∧ c < w'.heap.size ∧ c ∉ os ++ bs')) 0 x) (hperm : os.Perm (blocksOf news)) :
    ∃ k', k'.w = w' ∧ k'.h = (k.put (b ++ news.map fun x => (x.n, x.ob))).h ∧ HeapOK F k' ∧ Le F k k' ∧ (∀ c, (okc c ∨ ((k.w.heap.size ≤ c ∨ c ∈ bxs.flatMap (bsK k)) ∧ c < w'.heap.size ∧ c ∉ os ++ bs')) → k'.ok F c) ∧ NewsIn k' news := by
  let k' : K := ⟨w', (k.put (b ++ news.map fun x => (x.n, x.ob))).h, k.μ, fun i => match news.find? (fun y => Nat.beq y.n i) with | some x => x.v | none => k.ν i,
    fun i => match news.find? (fun y => Nat.beq y.n i) with | some x => x.nb | none => if i ∈ b.map (·.1) then nbn i else k.nb i⟩
  have hbmem : ∀ p ∈ b, ∃ hd, (p.1, hd) ∈ bxs ∧ HdIn k (p.1, hd) := by
    intro p hp
    have : p.1 ∈ bxs.map (·.1) := by rw [← hbk]; exact List.mem_map.2 ⟨p, hp, rfl⟩
    obtain ⟨q, hq, h1⟩ := List.mem_map.1 this
    exact ⟨q.2, by rw [← h1]; exact hq, by rw [← h1]; exact hbx q hq⟩
  have hbsome : ∀ p ∈ bxs, k.h p.1 ≠ none := by
    intro p hp hn
    have := hbx p hp
    unfold HdIn at this
    split at this
    · obtain ⟨cs, h⟩ := this; rw [hn] at h; cases h
    · obtain ⟨xs, h⟩ := this; rw [hn] at h; cases h
    · obtain ⟨xs, h⟩ := this; rw [hn] at h; cases h
  have hLk : ((b ++ news.map fun x => (x.n, x.ob)).map (·.1)).Nodup := by
    rw [List.map_append, hbk, List.map_map]
    refine List.nodup_append.2 ⟨hbn, hnn, fun i h1 j h2 hij => ?_⟩
    subst hij
    obtain ⟨q, hq, rfl⟩ := List.mem_map.1 h1
    obtain ⟨x, hx, h3⟩ := List.mem_map.1 h2
    have := hfresh x hx
    rw [show x.n = q.1 from h3] at this
    exact hbsome q hq this
  have hhb : ∀ p ∈ b, k'.h p.1 = some p.2 := fun p hp => by
    show (lkH _ p.1).or _ = _
    rw [lkH_nodup hLk (i := p.1) (o := p.2) (List.mem_append.2 (.inl hp))]
    rfl
  have hhn : ∀ x ∈ news, k'.h x.n = some x.ob := fun x hx => by
    show (lkH _ x.n).or _ = _
    rw [lkH_nodup hLk (i := x.n) (o := x.ob) (List.mem_append.2 (.inr (List.mem_map.2 ⟨x, hx, rfl⟩)))]
    rfl
  have hho : ∀ i, i ∉ bxs.map (·.1) → i ∉ news.map NewO.n → k'.h i = k.h i := fun i h1 h2 => by
    show (lkH _ i).or _ = _
    rw [lkH_none (by
      rw [List.map_append, hbk, List.map_map]
      intro h3
      rcases List.mem_append.1 h3 with h3 | h3
      · exact h1 h3
      · exact h2 h3)]
    rfl
  have hfind : ∀ i, i ∉ news.map NewO.n → news.find? (fun y => Nat.beq y.n i) = none := by
    intro i hi
    cases hfd : news.find? (fun y => Nat.beq y.n i) with
    | none => rfl
    | some x =>
      have h1 := List.mem_of_find?_eq_some hfd
      have h2 : x.n = i := Nat.eq_of_beq_eq_true (by simpa using List.find?_some hfd)
      exact absurd (List.mem_map.2 ⟨x, h1, h2⟩) hi
  have hνn : ∀ x ∈ news, k'.ν x.n = x.v ∧ k'.nb x.n = x.nb := by
    intro x hx
    show (match news.find? (fun y => Nat.beq y.n x.n) with | some x => x.v | none => k.ν x.n) = x.v ∧ (match news.find? (fun y => Nat.beq y.n x.n) with | some x => x.nb | none => _) = x.nb
    rw [find_newO hnn hx]
    exact ⟨rfl, rfl⟩
  have hνo : ∀ i, i ∉ news.map NewO.n → k'.ν i = k.ν i := by
    intro i hi
    show (match news.find? (fun y => Nat.beq y.n i) with | some x => x.v | none => k.ν i) = k.ν i
    rw [hfind i hi]
  have hnbo : ∀ i, i ∉ news.map NewO.n → k'.nb i = if i ∈ b.map (·.1) then nbn i else k.nb i := by
    intro i hi
    show (match news.find? (fun y => Nat.beq y.n i) with | some x => x.nb | none => if i ∈ List.map (fun p : Nat × Ob => p.1) b then nbn i else k.nb i) = _
    rw [hfind i hi]
  have hbnew : ∀ i, i ∈ bxs.map (·.1) → i ∉ news.map NewO.n := by
    intro i h1 h2
    obtain ⟨q, hq, rfl⟩ := List.mem_map.1 h1
    obtain ⟨x, hx, h3⟩ := List.mem_map.1 h2
    have := hfresh x hx
    rw [h3] at this
    exact hbsome q hq this
  have hbin : ∀ p ∈ b, p.1 ∈ bxs.map (·.1) := fun p hp => by rw [← hbk]; exact List.mem_map.2 ⟨p, hp, rfl⟩
  have hbν : ∀ p ∈ b, k'.ν p.1 = k.ν p.1 := fun p hp => hνo _ (hbnew _ (hbin p hp))
  have hbnb : ∀ p ∈ b, k'.nb p.1 = nbn p.1 := fun p hp => by rw [hnbo _ (hbnew _ (hbin p hp)), if_pos (List.mem_map.2 ⟨p, hp, rfl⟩)]
  -- what is owned now
  have hownb : ∀ p ∈ b, ∀ c, k'.own p.1 c → c ∈ backB k nbn p := by
    intro p hp c h
    rcases hb p hp with ⟨t, x, cs, T, h1, _⟩ | ⟨h1, _⟩ | ⟨e, r, xs, us, o, h1, _⟩
    · unfold K.own at h
      rw [hhb p hp, h1] at h
      unfold backB
      rw [h1]
      have h : k.μ p.1 = c := h
      simp [h]
    · unfold K.own at h
      rw [hhb p hp, h1] at h
      exact h.elim
    · have := own_sub (by rw [hhb p hp, h1]) h
      rw [hbν p hp, hbnb p hp] at this
      unfold backB
      rw [h1]
      exact this
  have hownn : ∀ x ∈ news, ∀ c, k'.own x.n c → c ∈ x.bl := by
    intro x hx c h
    obtain ⟨e, r, xs, us, o, h1, _⟩ := hnew x hx
    have := own_sub (by rw [hhn x hx, h1]) h
    rw [(hνn x hx).1, (hνn x hx).2] at this
    exact this
  have hnews : (blocksOf news).Nodup := (hperm.nodup_iff).1 (List.nodup_append.1 hon).1
  have hback : (b.flatMap (backB k nbn)).Nodup := by rw [← hbs]; exact (List.nodup_append.1 hon).2.1
  have hcross : ∀ x ∈ news, ∀ c ∈ x.bl, ∀ p ∈ b, c ∉ backB k nbn p := by
    intro x hx c h1 p hp h2
    have h3 : c ∈ os := (hperm.mem_iff).2 (List.mem_flatMap.2 ⟨x, hx, h1⟩)
    have h4 : c ∈ bs' := by rw [hbs]; exact List.mem_flatMap.2 ⟨p, hp, h2⟩
    exact (List.nodup_append.1 hon).2.2 c h3 c h4 rfl
  have hTcase : ∀ i, (i ∈ bxs.map (·.1) ∨ i ∈ news.map NewO.n) → (∃ p ∈ b, p.1 = i) ∨ ∃ x ∈ news, x.n = i := by
    rintro i (h | h)
    · rw [← hbk] at h
      obtain ⟨p, hp, h1⟩ := List.mem_map.1 h
      exact .inl ⟨p, hp, h1⟩
    · obtain ⟨x, hx, h1⟩ := List.mem_map.1 h
      exact .inr ⟨x, hx, h1⟩
  have hbsown : ∀ c ∈ bxs.flatMap (bsK k), ∃ p ∈ bxs, k.own p.1 c := by
    intro c hc
    obtain ⟨p, hp, h1⟩ := List.mem_flatMap.1 hc
    exact ⟨p, hp, (own_bsK (hbx p hp) c).2 h1⟩
  have hownT : ∀ i c, (i ∈ bxs.map (·.1) ∨ i ∈ news.map NewO.n) → k'.own i c → (∃ p ∈ bxs, k.own p.1 c) ∨ (k.w.heap.size ≤ c ∧ c < w'.heap.size) := by
    intro i c hi h
    rcases hTcase i hi with ⟨p, hp, rfl⟩ | ⟨x, hx, rfl⟩
    · have h1 : c ∈ bs' := by rw [hbs]; exact List.mem_flatMap.2 ⟨p, hp, hownb p hp c h⟩
      exact (hbr c h1).imp (hbsown c) (fun h => h)
    · exact (hor c ((hperm.mem_iff).2 (List.mem_flatMap.2 ⟨x, hx, hownn x hx c h⟩))).imp (hbsown c) (fun h => h)
  have hoko : ∀ c, (okc c ∨ ((k.w.heap.size ≤ c ∨ c ∈ bxs.flatMap (bsK k)) ∧ c < w'.heap.size ∧ c ∉ os ++ bs')) → k'.ok F c := by
    rintro c (hc | ⟨h1, h2, h3⟩)
    · rcases hsub c hc with hc' | ⟨h1, h2, h3⟩
      · exact .inl hc'
      · refine .inr ⟨h1, Nat.lt_of_lt_of_le h2 hsz, fun i hi => ?_⟩
        by_cases hT : i ∈ bxs.map (·.1) ∨ i ∈ news.map NewO.n
        · rcases hownT i c hT hi with ⟨p, _, h4⟩ | ⟨h4, _⟩
          · exact h3 _ h4
          · omega
        · refine h3 i ?_
          have hn1 : i ∉ bxs.map (·.1) := fun h => hT (.inl h)
          have hn2 : i ∉ news.map NewO.n := fun h => hT (.inr h)
          have e1 := hho i hn1 hn2
          have e2 := hνo i hn2
          have e3 := hnbo i hn2
          rw [if_neg (by rw [hbk]; exact hn1)] at e3
          unfold K.own at hi ⊢
          rw [e1, e2, e3] at hi
          exact hi
    · refine .inr ⟨h1.elim (fun h => .inl (Nat.le_trans hk.size h)) (fun h => by
          obtain ⟨p, _, h4⟩ := hbsown c h
          exact (hk.rng _ _ h4).1), h2, fun i hi => ?_⟩
      by_cases hT : i ∈ bxs.map (·.1) ∨ i ∈ news.map NewO.n
      · rcases hTcase i hT with ⟨p, hp, rfl⟩ | ⟨x, hx, rfl⟩
        · exact h3 (List.mem_append.2 (.inr (by rw [hbs]; exact List.mem_flatMap.2 ⟨p, hp, hownb p hp c hi⟩)))
        · exact h3 (List.mem_append.2 (.inl ((hperm.mem_iff).2 (List.mem_flatMap.2 ⟨x, hx, hownn x hx c hi⟩))))
      · have hn1 : i ∉ bxs.map (·.1) := fun h => hT (.inl h)
        have hn2 : i ∉ news.map NewO.n := fun h => hT (.inr h)
        have e1 := hho i hn1 hn2
        have e2 := hνo i hn2
        have e3 := hnbo i hn2
        rw [if_neg (by rw [hbk]; exact hn1)] at e3
        have : k.own i c := by
          unfold K.own at hi ⊢
          rw [e1, e2, e3] at hi
          exact hi
        rcases h1 with h1 | h1
        · have := (hk.rng i c this).2
          omega
        · obtain ⟨p, hp, h4⟩ := hbsown c h1
          exact hn1 (hk.inj i p.1 c this h4 ▸ List.mem_map.2 ⟨p, hp, rfl⟩)
  have main := reownB hk (k' := k') (fun i => i ∈ bxs.map (·.1) ∨ i ∈ news.map NewO.n) hsz (fun c hc hn => hfr c hc fun hm => ?_) hos htp hou (fun i hi => ?_) (fun i hi => ?_) (fun i c hi h => ?_) (fun i j c hi hj h1 h2 => ?_) (fun hle i ob hi ho => ?_)
  · exact ⟨k', rfl, rfl, main.1, main.2, hoko, fun x hx => ⟨hhn x hx, (hνn x hx).1⟩⟩
  · obtain ⟨p, hp, h1⟩ := hbsown c hm
    exact hn p.1 (.inl (List.mem_map.2 ⟨p, hp, rfl⟩)) h1
  · have hn1 : i ∉ bxs.map (·.1) := fun h => hi (.inl h)
    have hn2 : i ∉ news.map NewO.n := fun h => hi (.inr h)
    refine ⟨hho i hn1 hn2, rfl, hνo i hn2, ?_⟩
    rw [hnbo i hn2, if_neg (by rw [hbk]; exact hn1)]
  · rcases hTcase i hi with ⟨p, hp, rfl⟩ | ⟨x, hx, rfl⟩
    · rcases hb p hp with ⟨t, x, cs, T, h1, h2, _⟩ | ⟨h1, e, r, o, h2⟩ | ⟨e, r, xs, us, o, h1, h2, h3, _⟩
      · obtain ⟨cs0, h4⟩ := hbx _ h2
        exact .inr (.inr ⟨cs0, unpack t x, h4, by rw [hhb p hp, h1], rfl, hbν p hp⟩)
      · obtain ⟨xs0, h4⟩ := hbx _ h2
        exact .inr (.inl ⟨e, r, xs0, _, h4, hbν p hp, .inr (.inr (by rw [hhb p hp, h1]))⟩)
      · obtain ⟨xs0, h4⟩ := hbx _ h2
        refine .inr (.inl ⟨e, r, xs0, _, h4, hbν p hp, .inl ⟨xs, _, by rw [hhb p hp, h1], ?_⟩⟩)
        obtain ⟨us0, h5, _⟩ := own_row hk h4
        obtain ⟨a1, c1, e1⟩ := h5.form
        obtain ⟨a2, c2, e2⟩ := h3.form
        rw [e1] at e2
        injection e2 with _ e2 _
        exact e2.symm
    · exact .inl (hfresh x hx)
  · rcases hownT i c hi h with ⟨p, hp, h1⟩ | h1
    · exact .inl ⟨p.1, .inl (List.mem_map.2 ⟨p, hp, rfl⟩), h1⟩
    · exact .inr h1
  · rcases hTcase i hi with ⟨p, hp, rfl⟩ | ⟨x, hx, rfl⟩
    · rcases hTcase j hj with ⟨q, hq, rfl⟩ | ⟨y, hy, rfl⟩
      · rw [flatMap_inj hback hp hq (hownb p hp c h1) (hownb q hq c h2)]
      · exact absurd (hownb p hp c h1) (hcross y hy c (hownn y hy c h2) p hp)
    · rcases hTcase j hj with ⟨q, hq, rfl⟩ | ⟨y, hy, rfl⟩
      · exact absurd (hownb q hq c h2) (hcross x hx c (hownn x hx c h1) q hq)
      · rw [flatMap_inj hnews hx hy (hownn x hx c h1) (hownn y hy c h2)]
  · rcases hTcase i hi with ⟨p, hp, rfl⟩ | ⟨x, hx, rfl⟩
    · rw [hhb p hp] at ho
      have ho := Option.some.inj ho
      subst ho
      have hpn : (backB k nbn p).Nodup := nodup_of_flatMap hback hp
      rcases hb p hp with ⟨t, x, cs, T, h1, h2, h3, h4⟩ | ⟨h1, _⟩ | ⟨e, r, xs, us, o, h1, h2, h3, h4, h5⟩
      · rw [h1]
        exact ⟨cs, T, h3, unpack_rel (h4.mono hoko (fun _ _ _ => rfl))⟩
      · rw [h1]
        trivial
      · rw [h1]
        obtain ⟨xs0, h6⟩ := hbx _ h2
        dsimp only at h6
        have hbb : backB k nbn p = (ownB (k.ν p.1)).toList ++ nbn p.1 := by unfold backB; rw [h1]
        refine objR_of (us := us) (bl := nbn p.1) ?_ ?_ h5 (hbnb p hp) ?_
        · rw [hbν p hp]
          exact h3
        · exact h4.mono hoko
        · rw [hbν p hp, ← hbb]
          exact hpn
    · rw [hhn x hx] at ho
      have ho := Option.some.inj ho
      subst ho
      obtain ⟨e, r, xs, us, o, h1, h2, h3, h4⟩ := hnew x hx
      rw [h1]
      refine objR_of (us := us) (bl := x.nb) ?_ ?_ h4 (hνn x hx).2 ?_
      · rw [(hνn x hx).1]
        exact h2
      · exact h3.mono hoko
      · rw [(hνn x hx).1]
        exact nodup_of_flatMap hnews hx

end Go.MC

/- A call by its summary does as it says (general). -/
set_option linter.unusedVariables false
set_option linter.unusedSimpArgs false
namespace Go.MC
open Go.RowKit

theorem freshAll_sound {S : St} : ∀ {l : List (Nat × Ob)} {u : Unit} {R : List Nat}, Tells (freshAll l) S u R → ∀ p ∈ l, lkH S.H p.1 = none
  | [], _, _, _, p, hp => by simp at hp
  | q :: l, u, R, h, p, hp => by
    unfold freshAll at h
    obtain ⟨o, _, _, ho, h, _⟩ := tells_bind (Good.rdO _) (fun _ => Good.all _) h
    obtain ⟨_, _, _, hg, h, _⟩ := tells_bind (Good.guard _) (fun _ => Good.all _) h
    rcases List.mem_cons.1 hp with rfl | hp
    · obtain ⟨rfl, _⟩ := tells_rdO ho
      have := (tells_guard hg).1
      cases hh : lkH S.H p.1 with
      | none => rfl
      | some o => rw [hh] at this; cases this
    · exact freshAll_sound h p hp

section mem
variable {P : Program}

theorem tup_rel {F : Fx} {k : K} {cs : List V1} {vs : List Value} (h : relVs F k cs vs) : relA F k (tupV cs) (tupValue vs) := by
  cases cs with
  | nil => simp only [relVs] at h; subst h; exact ⟨[], rfl, rfl⟩
  | cons v cs =>
    obtain ⟨x, xs', rfl, h3, h4⟩ := h
    cases cs with
    | nil => simp only [relVs] at h4; subst h4; exact h3
    | cons v' cs =>
      obtain ⟨x', xs2, rfl, h5, h6⟩ := h4
      exact ⟨_, rfl, x, _, rfl, h3, x', _, rfl, h5, h6⟩

theorem callOK_of {Φ : Nat → Option Summ} (hΦ : ∀ g vs s, phiK Φ g vs = some s → Contract P g s) : CallOK P Φ := by
  intro F k S g s dst avs args U R hk hS hs ha h
  obtain ⟨hcall, hcon⟩ := hΦ g avs s hs
  unfold summStep at h
  obtain ⟨favs, _, _, hfa, h, _⟩ := tells_bind (Good.ofOpt _) (fun _ => Good.all _) h
  obtain ⟨fargs, hfv, ha⟩ := flatA_sound (tells_ofOpt hfa).1 ha
  obtain ⟨z, _, _, hz, h, _⟩ := tells_bind (good_args1 _ _ _) (fun _ => Good.all _) h
  obtain ⟨_, _, _, hpre, h, _⟩ := tells_bind (Good.guard _) (fun _ => Good.all _) h
  obtain ⟨_, _, _, hfl, h, _⟩ := tells_bind (Good.guard _) (fun _ => Good.all _) h
  obtain ⟨r, _, _, hr, h, _⟩ := tells_bind (Good.ofOpt _) (fun _ => Good.all _) h
  obtain ⟨_, _, _, hnd, h, _⟩ := tells_bind (Good.guard _) (fun _ => Good.all _) h
  obtain ⟨b, _, _, hb, h, _⟩ := tells_bind (Good.ofOpt _) (fun _ => Good.all _) h
  obtain ⟨_, _, _, hfresh, h, _⟩ := tells_bind (good_freshAll _) (fun _ => Good.all _) h
  obtain ⟨rfl, _⟩ := tells_pure h
  obtain ⟨ds, bxs, obs⟩ := z
  obtain ⟨vs1, nobs, rest, id'⟩ := r
  have hpre := (tells_guard hpre).1
  have hfl := (tells_guard hfl).1
  have hnd := nodupN'_nodup (tells_guard hnd).1
  have hr := (tells_ofOpt hr).1
  have hb := (tells_ofOpt hb).1
  have hfresh := freshAll_sound hfresh
  dsimp only at hpre hfl hnd hr hb hfresh
  simp only [Bool.and_eq_true] at hfl
  obtain ⟨⟨hfl, hbn⟩, htwo⟩ := hfl
  have hbn := nodupN'_nodup hbn
  obtain ⟨l, hT, hF, hZ, hargs, hbx, hbxo⟩ := args1_sound hk hS hz ha
  obtain ⟨hk1, hle1, hok1⟩ := freeze hk hF
  have htwo' : ∀ p ∈ bxs, p.1 ∉ obs.map (·.1) := by
    intro p hp hm
    obtain ⟨q, hq, h1⟩ := List.mem_map.1 hm
    have h2 := List.all_eq_true.1 htwo p hp
    have h3 := List.all_eq_true.1 h2 q hq
    rw [h1, Nat.beq_refl] at h3
    cases h3
  have hh1 : ∀ p ∈ bxs, (k.put obs).h p.1 = k.h p.1 := fun p hp => by
    show (lkH obs p.1).or (k.h p.1) = _
    rw [lkH_none (htwo' p hp)]
    rfl
  have hbx1 : ∀ p ∈ bxs, HdIn (k.put obs) p := by
    intro p hp
    have h1 := hbx p hp
    unfold HdIn at h1 ⊢
    rw [hh1 p hp]
    exact h1
  have hokT_lt : ∀ c, k.okT F l c → c < k.w.heap.size := by
    rintro c (hc | ⟨id, _, ho⟩)
    · exact K.ok_lt hk hc
    · exact (hk.rng id c ho).2
  have hbs : (bxs.flatMap (bsK k)).Nodup := by
    have : ∀ {bx : List (Nat × Hd)}, (∀ p ∈ bx, HdIn k p) → (bx.map (·.1)).Nodup → (bx.flatMap (bsK k)).Nodup := by
      intro bx
      induction bx with
      | nil => exact fun _ _ => List.nodup_nil
      | cons p bx ih =>
        intro h1 h2
        simp only [List.map_cons, List.nodup_cons] at h2
        rw [List.flatMap_cons]
        refine List.nodup_append.2 ⟨bsK_nodup hk (h1 p (by simp)), ih (fun q hq => h1 q (by simp [hq])) h2.2, fun c hc c' hc' hcc => ?_⟩
        subst hcc
        obtain ⟨q, hq, h3⟩ := List.mem_flatMap.1 hc'
        have h4 := (own_bsK (h1 p (by simp)) c).2 hc
        have h5 := (own_bsK (h1 q (by simp [hq])) c).2 h3
        exact h2.1 (List.mem_map.2 ⟨q, hq, hk.inj q.1 p.1 _ h5 h4⟩)
    exact this hbx hbn
  have hbr : ∀ c ∈ bxs.flatMap (bsK k), c < k.w.heap.size ∧ ¬ k.okT F l c := by
    intro c hc
    obtain ⟨p, hp, h0⟩ := List.mem_flatMap.1 hc
    have h1 := (own_bsK (hbx p hp) c).2 h0
    refine ⟨(hk.rng _ _ h1).2, ?_⟩
    rintro (h2 | ⟨id, hi, h2⟩)
    · exact K.ok_own hk h2 _ h1
    · obtain rfl := hk.inj id p.1 _ h2 h1
      cases hfz : s.fz with
      | true => exact htwo' p hp (hZ hfz _ hi)
      | false =>
        rw [hfz] at hfl
        simp only [Bool.false_or, Bool.and_eq_true] at hfl
        have : bxs = [] := by simpa using hfl.2
        rw [this] at hp
        simp at hp
  refine .inr (.inr ⟨g, args.toArray, hcall _ _, (hcon k.w (k.okT F l) args fargs ds _ _ hfv hargs hbs hbr hokT_lt hpre).mono ?_⟩)
  rintro e w' ⟨vs, rest', own, bs', rfl, hsz, hfr, hos, htp, hou, hon, hor, hbr', hres, hbox⟩
  obtain ⟨okc, hsub, hres, hboxes⟩ : ∃ okc : Nat → Prop, (∀ c, okc c → (k.put obs).ok F c) ∧ ResRd w' (fun c => okc c ∨ ((k.w.heap.size ≤ c ∨ c ∈ bxs.flatMap (bsK k)) ∧ c < w'.heap.size ∧ c ∉ own ++ bs')) 0 s.rs vs (s.out ds) rest' own ∧
      (rest = rest' → b.map (·.1) = bxs.map (·.1) ∧ ∃ nbn : Nat → List Nat, (∀ p ∈ b, BackR w' (fun c => okc c ∨ ((k.w.heap.size ≤ c ∨ c ∈ bxs.flatMap (bsK k)) ∧ c < w'.heap.size ∧ c ∉ own ++ bs')) k nbn bxs p) ∧ bs' = b.flatMap (backB k nbn)) := by
    cases hfz : s.fz with
    | true => exact ⟨k.okT F l, fun c hc => hok1 c (okT_mono (hZ hfz) hc), hres, fun he => boxes1_sound hb hbxo hbn (he ▸ hbox)⟩
    | false =>
      rw [hfz] at hfl
      simp only [Bool.false_or, Bool.and_eq_true] at hfl
      refine ⟨fun _ => False, fun _ h => h.elim, hres.flat hfl.1, fun he => ?_⟩
      have hb0 : bxs = [] := by simpa using hfl.2
      obtain ⟨h1, nbn, h2, h3⟩ := boxes1_sound hb hbxo hbn (he ▸ hbox)
      have hbe : b = [] := by
        rw [hb0] at h1
        simpa using h1
      subst hbe
      exact ⟨h1, nbn, fun _ h => by simp at h, h3⟩
  obtain ⟨hrest, news, hnobs, hnews, hperm, hrel⟩ := results1_sound (F := F) hr hres
  obtain ⟨hbk, nbn, hbb, hbsq⟩ := hboxes hrest
  have hkn : ∀ x ∈ news, (k.put obs).h x.n = none := by
    intro x hx
    have h1 : k.h x.n = none := by
      rw [hS]
      exact hfresh (x.n, x.ob) (by rw [hnobs]; exact List.mem_map.2 ⟨x, hx, rfl⟩)
    show (lkH obs x.n).or (k.h x.n) = none
    rw [h1]
    cases hh : lkH obs x.n with
    | none => rfl
    | some o =>
      obtain ⟨e', r', xs', dd, h2, _⟩ := hF _ (lkH_some hh)
      rw [show k.h x.n = _ from h2] at h1
      cases h1
  have hnn : (news.map NewO.n).Nodup := by
    rw [hnobs, List.map_map] at hnd
    exact hnd
  obtain ⟨k', hw, hh, hk', hle, hokk, hni⟩ := call_core hk1 (okc := okc) hsub (bxs := bxs) hbx1 hbn (w' := w') (os := own) (bs' := bs') (b := b) (nbn := nbn) (news := news) hsz hfr hos htp hou hon hor hbr' hbk hbb hbsq hkn hnn hnews hperm
  refine ⟨_, k', rfl, hw.symm, ?_, hk', hle1.trans hle, tup_rel (hrel k' hw hokk hni)⟩
  rw [hh, put_put, hnobs, List.append_assoc]

end mem
end Go.MC

/- A contract out of a run (general). -/
set_option linter.unusedVariables false
set_option linter.unusedSimpArgs false
namespace Go.MC
open Go.RowKit

/-- The data are of the parameters' kinds, and within their bounds. -/
def DsFit : List PS → List Dv → Prop
  | [], ds => ds = []
  | .d t _ :: ps, ds => ∃ x ds', ds = ⟨t, x⟩ :: ds' ∧ Fit t x ∧ DsFit ps ds'
  | .bx t :: ps, ds => ∃ x ds', ds = ⟨t, x⟩ :: ds' ∧ Fit t x ∧ DsFit ps ds'
  | .ow _ r _ :: ps, ds => ∃ x ds', ds = ⟨.slice r, x⟩ :: ds' ∧ Fit (.slice r) x ∧ DsFit ps ds'
  | .mv _ r _ :: ps, ds => ∃ x ds', ds = ⟨.slice r, x⟩ :: ds' ∧ Fit (.slice r) x ∧ DsFit ps ds'
  | .sp _ :: _, _ => False
  | .cl _ _ :: _, _ => False

theorem argsRd_fit {w : World} {ok : Nat → Prop} : ∀ {ps : List PS} {vs : List Value} {ds : List Dv} {hv : List HV} {bs : List Nat}, ArgsRd w ok ps vs ds hv bs → DsFit ps ds
  | [], _, _, _, _, h => h.2.1
  | .d t agg :: ps, _, _, _, _, h => by
    obtain ⟨v, vs', x, ds', cs, rfl, rfl, h1, h2, h3⟩ := h
    exact ⟨x, ds', rfl, h1.fit, argsRd_fit h3⟩
  | .bx t :: ps, _, _, _, _, h => by
    obtain ⟨b, vs', x, ds', cs, T, hv', bs', rfl, rfl, rfl, rfl, h1, h2, h3⟩ := h
    exact ⟨x, ds', rfl, h2.fit, argsRd_fit h3⟩
  | .ow e r o :: ps, _, _, _, _, h => by
    obtain ⟨v, vs', x, ds', us, bl, hv', bs', rfl, rfl, rfl, rfl, h1, h2, h3, h4⟩ := h
    exact ⟨x, ds', rfl, ⟨h3, h2.fit⟩, argsRd_fit h4⟩
  | .mv e r o :: ps, _, _, _, _, h => by
    obtain ⟨v, vs', x, ds', us, bl, hv', bs', rfl, rfl, rfl, rfl, h1, h2, h3, h4⟩ := h
    exact ⟨x, ds', rfl, ⟨h3, h2.fit⟩, argsRd_fit h4⟩
  | .sp _ :: _, _, _, _, _, h => h.elim
  | .cl _ _ :: _, _, _, _, _, h => h.elim

/-- Where what is handed over lies: a block; a slice and its elements' own rows' blocks. -/
structure Lie where
  n : Nat
  μ : Nat
  ν : Value
  nb : List Nat
def LieOK (k : K) (x : Lie) : Prop := k.μ x.n = x.μ ∧ k.ν x.n = x.ν ∧ k.nb x.n = x.nb

theorem parId_par {i : Nat} (h : Nat.blt i 100000 = true) : isPar (parId i) = true := by
  have h : i + 1 ≤ 100000 := Nat.le_of_ble_eq_true h
  unfold isPar parId
  rw [Nat.ble_eq_true_of_le (by omega), Bool.true_and]
  exact Nat.ble_eq_true_of_le (by omega)

def isBx : Hd → Bool
  | .bx _ => true
  | _ => false
theorem pars_sound {w : World} {ok : Nat → Prop} : ∀ {ps : List PS} {i : Nat} {args : List Value} {ds : List Dv} {hv : List HV} {bs : List Nat} {avs : List AV} {H : List (Nat × Ob)} {bxs : List (Nat × Hd)}, pars i ps ds = some (avs, H, bxs) → ArgsRd w ok ps args ds hv bs →
    ∃ lies : List Lie, H.map (·.1) = bxs.map (·.1) ∧ lies.map Lie.n = bxs.map (·.1) ∧ avs.length = ps.length ∧ (∀ p ∈ bxs, (∃ j, i ≤ j ∧ j < 100000 ∧ p.1 = boxId j ∧ isBx p.2 = true) ∨ (∃ j, i ≤ j ∧ j < 100000 ∧ p.1 = parId j ∧ isMv p.2 = false) ∨ ∃ j, i ≤ j ∧ j < 100000 ∧ p.1 = mvId j ∧ isMv p.2 = true) ∧ (bxs.map (·.1)).Nodup ∧ BxOf ps bxs ∧
      ∀ {F : Fx} {k : K}, k.w = w → (∀ c, ok c → k.ok F c) → (∀ p ∈ H, k.h p.1 = some p.2) → (∀ x ∈ lies, LieOK k x) → bs.Nodup → CallOK.relAs F k avs args ∧ (∀ p ∈ H, objR F k p.1 p.2) ∧ bxs.map (hvK k) = hv ∧ (∀ p ∈ bxs, HdIn k p) ∧ bxs.flatMap (bsK k) = bs
  | [], i, args, ds, hv, bs, avs, H, bxs, hp, h => by
    obtain ⟨rfl, rfl, rfl, rfl⟩ := h
    simp only [pars, Option.some.injEq, Prod.mk.injEq] at hp
    obtain ⟨rfl, rfl, rfl⟩ := hp
    exact ⟨[], rfl, rfl, rfl, fun _ h => by simp at h, List.nodup_nil, rfl, fun _ _ _ _ _ => ⟨rfl, fun _ h => by simp at h, rfl, fun _ h => by simp at h, rfl⟩⟩
  | .d t agg :: ps, i, args, ds, hv, bs, avs, H, bxs, hp, h => by
    obtain ⟨v, vs', x, ds', cs, rfl, rfl, h1, h2, h3⟩ := h
    simp only [pars, castT_self] at hp
    split at hp
    case h_2 => cases hp
    rename_i x' z hx' hz
    cases hx'
    obtain ⟨z1, z2, z3⟩ := z
    simp only [Option.some.injEq, Prod.mk.injEq] at hp
    obtain ⟨rfl, rfl, rfl⟩ := hp
    obtain ⟨lies, g1, g2, g3, g4, g5, g6, g7⟩ := pars_sound hz h3
    refine ⟨lies, g1, g2, by simp [g3], fun p hp => ?_, g5, g6, fun {F k} hw ho hH hl hn => ?_⟩
    · rcases g4 p hp with ⟨j, a, b⟩ | ⟨j, a, b⟩ | ⟨j, a, b⟩
      · exact .inl ⟨j, by omega, b⟩
      · exact .inr (.inl ⟨j, by omega, b⟩)
      · exact .inr (.inr ⟨j, by omega, b⟩)
    · obtain ⟨h4, h5⟩ := g7 (F := F) hw ho hH hl hn
      refine ⟨⟨v, vs', rfl, ?_, h4⟩, h5⟩
      have hrd : Rd k.w (k.ok F) t x cs := by rw [hw]; exact h1.mono ho (fun _ _ _ => rfl)
      cases agg with
      | true => exact (shape_rel (unpack_rel hrd) h2).1 rfl
      | false =>
        have : cs = [v] := by simpa [shape] using h2
        subst this
        exact hrd
  | .bx t :: ps, i, args, ds, hv, bs, avs, H, bxs, hp, h => by
    obtain ⟨b, vs', x, ds', cs, T, hv', bs', rfl, rfl, rfl, rfl, h1, h2, h3⟩ := h
    simp only [pars, castT_self] at hp
    split at hp
    case h_2 => cases hp
    rename_i x' z hx' hz
    cases hx'
    obtain ⟨z1, z2, z3⟩ := z
    cases hi : Nat.blt i 100000 with
    | false => rw [hi] at hp; cases hp
    | true =>
    rw [hi] at hp
    simp only [cond_true, Option.some.injEq, Prod.mk.injEq] at hp
    obtain ⟨rfl, rfl, rfl⟩ := hp
    have hi' : i < 100000 := Nat.le_of_ble_eq_true hi
    obtain ⟨lies, g1, g2, g3, g4, g5, g6, g7⟩ := pars_sound hz h3
    refine ⟨⟨boxId i, b, .slice none 0 0, []⟩ :: lies, by simp [g1], by simp [g2], by simp [g3], fun p hp => ?_, ?_, ⟨_, _, rfl, g6⟩, fun {F k} hw ho hH hl hn => ?_⟩
    · rcases List.mem_cons.1 hp with rfl | hp
      · exact .inl ⟨i, Nat.le_refl _, hi', rfl, rfl⟩
      · rcases g4 p hp with ⟨j, a, b⟩ | ⟨j, a, b⟩ | ⟨j, a, b⟩
        · exact .inl ⟨j, by omega, b⟩
        · exact .inr (.inl ⟨j, by omega, b⟩)
        · exact .inr (.inr ⟨j, by omega, b⟩)
    · simp only [List.map_cons, List.nodup_cons]
      refine ⟨fun hm => ?_, g5⟩
      obtain ⟨p, hp, h4⟩ := List.mem_map.1 hm
      rcases g4 p hp with ⟨j, a, b, c, _⟩ | ⟨j, a, b, c, _⟩ | ⟨j, a, b, c, _⟩
      · rw [c] at h4; simp only [boxId] at h4; omega
      · rw [c] at h4; simp only [boxId, parId] at h4; omega
      · rw [c] at h4; simp only [boxId, mvId] at h4; omega
    · obtain ⟨h4, h5, h6, h7, h8⟩ := g7 (F := F) hw ho (fun p hp => hH p (by simp [hp])) (fun q hq => hl q (by simp [hq])) (List.nodup_append.1 hn).2.1
      have hb : k.μ (boxId i) = b := (hl _ List.mem_cons_self).1
      have hbox := hH (boxId i, .box (unpack t x)) (by simp)
      refine ⟨⟨_, vs', rfl, ⟨⟨_, hbox⟩, by rw [hb]⟩, h4⟩, fun p hp => ?_, by rw [List.map_cons, h6]; show HV.bx (k.μ (boxId i)) :: hv' = _; rw [hb], fun p hp => ?_, by rw [List.flatMap_cons, h8]; show [k.μ (boxId i)] ++ bs' = _; rw [hb]⟩
      · rcases List.mem_cons.1 hp with rfl | hp
        · refine ⟨cs, T, by rw [hb, hw]; exact h1, unpack_rel (by rw [hw]; exact h2.mono ho (fun _ _ _ => rfl))⟩
        · exact h5 p hp
      · rcases List.mem_cons.1 hp with rfl | hp
        · exact ⟨_, hbox⟩
        · exact h7 p hp
  | .ow e r o :: ps, i, args, ds, hv, bs, avs, H, bxs, hp, h => by
    obtain ⟨v, vs', x, ds', us, bl, hv', bs', rfl, rfl, rfl, rfl, h1, h2, hlim, h3⟩ := h
    simp only [pars, castT_self] at hp
    split at hp
    case h_2 => cases hp
    rename_i x' z hx' hz
    cases hx'
    obtain ⟨z1, z2, z3⟩ := z
    cases hi : Nat.blt i 100000 with
    | false => rw [hi] at hp; cases hp
    | true =>
      rw [hi] at hp
      simp only [cond_true, Option.some.injEq, Prod.mk.injEq] at hp
      obtain ⟨rfl, rfl, rfl⟩ := hp
      have hi' : i + 1 ≤ 100000 := Nat.le_of_ble_eq_true hi
      have hpar := parId_par hi
      obtain ⟨lies, g1, g2, g3, g4, g5, g6, g7⟩ := pars_sound hz h3
      refine ⟨⟨parId i, 0, v, bl⟩ :: lies, by simp [g1], by simp [g2], by simp [g3], fun p hp => ?_, ?_, ⟨_, _, rfl, g6⟩, fun {F k} hw ho hH hl hn => ?_⟩
      · rcases List.mem_cons.1 hp with rfl | hp
        · exact .inr (.inl ⟨i, Nat.le_refl _, by omega, rfl, rfl⟩)
        · rcases g4 p hp with ⟨j, a, b⟩ | ⟨j, a, b⟩ | ⟨j, a, b⟩
          · exact .inl ⟨j, by omega, b⟩
          · exact .inr (.inl ⟨j, by omega, b⟩)
          · exact .inr (.inr ⟨j, by omega, b⟩)
      · simp only [List.map_cons, List.nodup_cons]
        refine ⟨fun hm => ?_, g5⟩
        obtain ⟨p, hp, h4⟩ := List.mem_map.1 hm
        rcases g4 p hp with ⟨j, a, b, c, _⟩ | ⟨j, a, b, c, _⟩ | ⟨j, a, b, c, _⟩
        · rw [c] at h4; simp only [boxId, parId] at h4; omega
        · rw [c] at h4; simp only [parId] at h4; omega
        · rw [c] at h4; simp only [parId, mvId] at h4; omega
      · obtain ⟨h4, h5, h6, h7, h8⟩ := g7 (F := F) hw ho (fun p hp => hH p (by simp [hp])) (fun q hq => hl q (by simp [hq])) (List.nodup_append.1 hn).2.1
        obtain ⟨_, hν, hnb⟩ := hl _ List.mem_cons_self
        dsimp only at hν hnb
        have harr := hH (parId i, .arr e r x (dpO o)) (by simp)
        have hbs : F.bs (parId i) = 0 := rfl
        obtain ⟨a, c, hform⟩ := h1.form
        refine ⟨⟨_, vs', rfl, ⟨⟨a, _, c, hform⟩, by rw [show k.h (parId i) = _ from harr]; exact hν.symm⟩, h4⟩, fun p hp => ?_, by rw [List.map_cons, h6]; show HV.ow (k.ν (parId i)) :: hv' = _; rw [hν], fun p hp => ?_, ?_⟩
        · rcases List.mem_cons.1 hp with rfl | hp
          · refine objR_of (us := us) (bl := bl) ?_ ?_ hlim hnb ?_
            · rw [hbs, hν, hw]; exact h1
            · rw [hbs, hw]; exact h2.mono ho
            · rw [hν]; exact (List.nodup_append.1 hn).1
          · exact h5 p hp
        · rcases List.mem_cons.1 hp with rfl | hp
          · exact ⟨_, harr⟩
          · exact h7 p hp
        · rw [List.flatMap_cons, h8]
          show ((ownB (k.ν (parId i))).toList ++ nbK k (parId i) o) ++ bs' = _
          rw [hν]
          cases o with
          | none => rw [h2.2]; rfl
          | some ns => show (_ ++ k.nb (parId i)) ++ _ = _; rw [hnb]
  | .mv e r o :: ps, i, args, ds, hv, bs, avs, H, bxs, hp, h => by
    obtain ⟨v, vs', x, ds', us, bl, hv', bs', rfl, rfl, rfl, rfl, h1, h2, hlim, h3⟩ := h
    simp only [pars, castT_self] at hp
    split at hp
    case h_2 => cases hp
    rename_i x' z hx' hz
    cases hx'
    obtain ⟨z1, z2, z3⟩ := z
    cases hi : Nat.blt i 100000 with
    | false => rw [hi] at hp; cases hp
    | true =>
      rw [hi] at hp
      simp only [cond_true, Option.some.injEq, Prod.mk.injEq] at hp
      obtain ⟨rfl, rfl, rfl⟩ := hp
      have hi' : i + 1 ≤ 100000 := Nat.le_of_ble_eq_true hi
      obtain ⟨lies, g1, g2, g3, g4, g5, g6, g7⟩ := pars_sound hz h3
      refine ⟨⟨mvId i, 0, v, bl⟩ :: lies, by simp [g1], by simp [g2], by simp [g3], fun p hp => ?_, ?_, ⟨_, _, rfl, g6⟩, fun {F k} hw ho hH hl hn => ?_⟩
      · rcases List.mem_cons.1 hp with rfl | hp
        · exact .inr (.inr ⟨i, Nat.le_refl _, by omega, rfl, rfl⟩)
        · rcases g4 p hp with ⟨j, a, b⟩ | ⟨j, a, b⟩ | ⟨j, a, b⟩
          · exact .inl ⟨j, by omega, b⟩
          · exact .inr (.inl ⟨j, by omega, b⟩)
          · exact .inr (.inr ⟨j, by omega, b⟩)
      · simp only [List.map_cons, List.nodup_cons]
        refine ⟨fun hm => ?_, g5⟩
        obtain ⟨p, hp, h4⟩ := List.mem_map.1 hm
        rcases g4 p hp with ⟨j, a, b, c, _⟩ | ⟨j, a, b, c, _⟩ | ⟨j, a, b, c, _⟩
        · rw [c] at h4; simp only [boxId, mvId] at h4; omega
        · rw [c] at h4; simp only [parId, mvId] at h4; omega
        · rw [c] at h4; simp only [mvId] at h4; omega
      · obtain ⟨h4, h5, h6, h7, h8⟩ := g7 (F := F) hw ho (fun p hp => hH p (by simp [hp])) (fun q hq => hl q (by simp [hq])) (List.nodup_append.1 hn).2.1
        obtain ⟨_, hν, hnb⟩ := hl _ List.mem_cons_self
        dsimp only at hν hnb
        have harr := hH (mvId i, .arr e r x (dpO o)) (by simp)
        have hbs : F.bs (mvId i) = 0 := rfl
        obtain ⟨a, c, hform⟩ := h1.form
        refine ⟨⟨_, vs', rfl, ⟨⟨a, _, c, hform⟩, by rw [show k.h (mvId i) = _ from harr]; exact hν.symm⟩, h4⟩, fun p hp => ?_, by rw [List.map_cons, h6]; rfl, fun p hp => ?_, ?_⟩
        · rcases List.mem_cons.1 hp with rfl | hp
          · refine objR_of (us := us) (bl := bl) ?_ ?_ hlim hnb ?_
            · rw [hbs, hν, hw]; exact h1
            · rw [hbs, hw]; exact h2.mono ho
            · rw [hν]; exact (List.nodup_append.1 hn).1
          · exact h5 p hp
        · rcases List.mem_cons.1 hp with rfl | hp
          · exact ⟨_, harr⟩
          · exact h7 p hp
        · rw [List.flatMap_cons, h8]
          show ((ownB (k.ν (mvId i))).toList ++ nbK k (mvId i) o) ++ bs' = _
          rw [hν]
          cases o with
          | none => rw [h2.2]; rfl
          | some ns => show (_ ++ k.nb (mvId i)) ++ _ = _; rw [hnb]
  | .sp _ :: _, i, args, ds, hv, bs, avs, H, bxs, hp, h => h.elim
  | .cl _ _ :: _, i, args, ds, hv, bs, avs, H, bxs, hp, h => h.elim

theorem ptrIds_sound {F : Fx} {k : K} : ∀ {n : Nat} {favs : List AV} {z : List Nat × List AV} {fargs : List Value}, ptrIds n favs = some z → CallOK.relAs F k favs fargs →
    ∃ fs, z.1.length = n ∧ fargs = (z.1.map fun id => Value.pointer (some ⟨k.μ id, 0, none⟩)) ++ fs ∧ (∀ id ∈ z.1, ∃ cs, k.h id = some (.box cs)) ∧ CallOK.relAs F k z.2 fs
  | 0, favs, z, fargs, h, ha => by
    simp only [ptrIds, Option.some.injEq] at h
    subst h
    exact ⟨fargs, rfl, rfl, fun _ h => by simp at h, ha⟩
  | n + 1, [], z, fargs, h, ha => by simp [ptrIds] at h
  | n + 1, v :: favs, z, fargs, h, ha => by
    unfold ptrIds at h
    split at h
    · rename_i h1; cases h1
    · rename_i m id vs h1 h2
      cases h2
      injection h1 with h1
      subst h1
      split at h
      · rename_i y hy
        simp only [Option.some.injEq] at h
        subst h
        obtain ⟨x, xs, rfl, hx, hxs⟩ := ha
        obtain ⟨fs, h3, h4, h5, h6⟩ := ptrIds_sound hy hxs
        obtain ⟨h7, h8⟩ := hx
        refine ⟨fs, by simp [h3], by simp [h4, h8], fun i hi => ?_, h6⟩
        rcases List.mem_cons.1 hi with rfl | hi
        · exact h7
        · exact h5 i hi
      · cases h
    · cases h

theorem oneCs_sound {F : Fx} {k : K} : ∀ {n : Nat} {favs : List AV} {z : List C × List AV} {fargs : List Value}, oneCs n favs = some z → CallOK.relAs F k favs fargs →
    ∃ ws fs, ws.length = n ∧ fargs = ws ++ fs ∧ relCs F k z.1 ws ∧ CallOK.relAs F k z.2 fs
  | 0, favs, z, fargs, h, ha => by
    simp only [oneCs, Option.some.injEq] at h
    subst h
    exact ⟨[], fargs, rfl, rfl, rfl, ha⟩
  | n + 1, [], z, fargs, h, ha => by simp [oneCs] at h
  | n + 1, v :: favs, z, fargs, h, ha => by
    unfold oneCs at h
    split at h
    · rename_i h1; cases h1
    · rename_i m c vs h1 h2
      cases h2
      injection h1 with h1
      subst h1
      split at h
      · rename_i y hy
        simp only [Option.some.injEq] at h
        subst h
        obtain ⟨x, xs, rfl, hx, hxs⟩ := ha
        obtain ⟨ws, fs, h3, h4, h5, h6⟩ := oneCs_sound hy hxs
        exact ⟨x :: ws, fs, by simp [h3], by simp [h4], ⟨x, ws, rfl, hx, h5⟩, h6⟩
      · cases h
    · cases h

theorem unfl_sound {F : Fx} {k : K} : ∀ {ps : List PS} {favs avs : List AV} {args fargs : List Value}, unfl ps favs = some avs → FlatV ps args fargs → CallOK.relAs F k favs fargs → CallOK.relAs F k avs args ∧ avs.length = ps.length
  | [], [], avs, args, fargs, h, hf, ha => by
    simp only [unfl, Option.some.injEq] at h
    subst h
    obtain ⟨rfl, _⟩ := hf
    exact ⟨rfl, rfl⟩
  | [], _ :: _, avs, args, fargs, h, hf, ha => by simp [unfl] at h
  | .d t a :: ps, [], avs, args, fargs, h, hf, ha => by simp [unfl] at h
  | .bx t :: ps, [], avs, args, fargs, h, hf, ha => by simp [unfl] at h
  | .ow e r o :: ps, [], avs, args, fargs, h, hf, ha => by simp [unfl] at h
  | .ow e r o :: ps, v :: favs, avs, args, fargs, h, hf, ha => by
    obtain ⟨x, vs', us', rfl, rfl, hf⟩ := hf
    obtain ⟨y, ys, he, hx, hxs⟩ := ha
    cases he
    simp only [unfl] at h
    split at h
    · rename_i z hz
      simp only [Option.some.injEq] at h
      subst h
      obtain ⟨h1, h2⟩ := unfl_sound hz hf hxs
      exact ⟨⟨x, vs', rfl, hx, h1⟩, by simp [h2]⟩
    · cases h
  | .mv e r o :: ps, v :: favs, avs, args, fargs, h, hf, ha => by
    obtain ⟨x, vs', us', rfl, rfl, hf⟩ := hf
    obtain ⟨y, ys, he, hx, hxs⟩ := ha
    cases he
    simp only [unfl] at h
    split at h
    · rename_i z hz
      simp only [Option.some.injEq] at h
      subst h
      obtain ⟨h1, h2⟩ := unfl_sound hz hf hxs
      exact ⟨⟨x, vs', rfl, hx, h1⟩, by simp [h2]⟩
    · cases h
  | .mv e r o :: ps, [], avs, args, fargs, h, hf, ha => by simp [unfl] at h
  | .sp l :: ps, favs, avs, args, fargs, h, hf, ha => by
    obtain ⟨cs, vs', us', rfl, rfl, hl, hf⟩ := hf
    simp only [unfl] at h
    split at h
    · rename_i z hz
      split at h
      · rename_i y hy
        simp only [Option.some.injEq] at h
        subst h
        obtain ⟨ws, fs, h3, h4, h5, h6⟩ := oneCs_sound hz ha
        have h7 := List.append_inj h4 (by rw [hl, h3])
        obtain ⟨rfl, rfl⟩ := h7
        obtain ⟨h8, h9⟩ := unfl_sound hy hf h6
        exact ⟨⟨_, vs', rfl, ⟨cs, rfl, h5⟩, h8⟩, by simp [h9]⟩
      · cases h
    · cases h
  | .d t a :: ps, v :: favs, avs, args, fargs, h, hf, ha => by
    obtain ⟨x, vs', us', rfl, rfl, hf⟩ := hf
    obtain ⟨y, ys, he, hx, hxs⟩ := ha
    cases he
    simp only [unfl] at h
    split at h
    · rename_i z hz
      simp only [Option.some.injEq] at h
      subst h
      obtain ⟨h1, h2⟩ := unfl_sound hz hf hxs
      exact ⟨⟨x, vs', rfl, hx, h1⟩, by simp [h2]⟩
    · cases h
  | .bx t :: ps, v :: favs, avs, args, fargs, h, hf, ha => by
    obtain ⟨x, vs', us', rfl, rfl, hf⟩ := hf
    obtain ⟨y, ys, he, hx, hxs⟩ := ha
    cases he
    simp only [unfl] at h
    split at h
    · rename_i z hz
      simp only [Option.some.injEq] at h
      subst h
      obtain ⟨h1, h2⟩ := unfl_sound hz hf hxs
      exact ⟨⟨x, vs', rfl, hx, h1⟩, by simp [h2]⟩
    · cases h
  | .cl g ts :: ps, favs, avs, args, fargs, h, hf, ha => by
    obtain ⟨caps, vs', us', rfl, rfl, hl, hf⟩ := hf
    simp only [unfl] at h
    split at h
    · rename_i z hz
      split at h
      · rename_i y hy
        simp only [Option.some.injEq] at h
        subst h
        obtain ⟨fs, h3, h4, h5, h6⟩ := ptrIds_sound hz ha
        have h7 := List.append_inj h4 (by simp [h3, hl])
        obtain ⟨rfl, rfl⟩ := h7
        obtain ⟨h8, h9⟩ := unfl_sound hy hf h6
        exact ⟨⟨_, vs', rfl, ⟨h5, rfl⟩, h8⟩, by simp [h9]⟩
      · cases h
    · cases h

/-- All blocks of own arrays. -/
def ownL (k : K) (id : Nat) : List Nat := match k.h id with
  | some (.arr _ _ _ .no) => (ownB (k.ν id)).toList
  | some (.arr _ _ _ (.yes _ _)) => (ownB (k.ν id)).toList ++ k.nb id
  | _ => []
def blkD (k : K) (ids : List Nat) : List Nat := ids.flatMap (ownL k)
theorem ownL_mem {k : K} {id e : Nat} {r : Ty} {xs : List r.den} {o : Option (List Nat)} (h : k.h id = some (.arr e r xs (dpO o))) (c : Nat) : k.own id c ↔ c ∈ ownL k id := by
  unfold ownL
  rw [h]
  cases o with
  | none => rw [own_no h]; simp [dpO]
  | some ns => rw [own_yes h]; simp [dpO]
theorem ownL_eq {k : K} {id e : Nat} {r : Ty} {xs : List r.den} {o : Option (List Nat)} (h : k.h id = some (.arr e r xs (dpO o))) : ownL k id = (ownB (k.ν id)).toList ++ nbK k id o := by
  cases o with
  | none => unfold ownL; rw [h]; simp [dpO, nbK]
  | some ns => unfold ownL; rw [h]; rfl

theorem extC_sound {F : Fx} {k : K} (hk : HeapOK F k) {H : List (Nat × Ob)} (hS : k.h = lkH H) : ∀ {t : Ty} {cs rest : List C} {x : t.den} {es es' : List (Nat × Option (List Nat))} {ids : List Nat}, extC H t cs es = some (x, rest, es', ids) → ∀ {vs : List Value}, relCs F k cs vs →
    ∃ u v, vs = u ++ v ∧ relCs F k rest v ∧ (∀ id ∈ ids, ∃ e r xs o, k.h id = some (.arr e r xs (dpO o)) ∧ isPar id = false) ∧ OwnRd2 k.w (k.ok F) 0 t x es u es' (blkD k ids)
  | .pair a b, cs, rest, x, es, es', ids, h, vs, hv => by
    simp only [extC] at h
    split at h
    · rename_i p hp
      split at h
      · rename_i q hq
        simp only [Option.some.injEq, Prod.mk.injEq] at h
        obtain ⟨rfl, rfl, rfl, rfl⟩ := h
        obtain ⟨u1, v1, rfl, h1, h2, h3⟩ := extC_sound hk hS (x := p.1) (rest := p.2.1) (es' := p.2.2.1) (ids := p.2.2.2) hp hv
        obtain ⟨u2, v2, rfl, h4, h5, h6⟩ := extC_sound hk hS (x := q.1) (rest := q.2.1) (es' := q.2.2.1) (ids := q.2.2.2) hq h1
        refine ⟨u1 ++ u2, v2, by simp, h4, fun id hi => ?_, u1, u2, _, _, _, rfl, h3, h6, by simp [blkD]⟩
        rcases List.mem_append.1 hi with hi | hi
        · exact h2 id hi
        · exact h5 id hi
      · cases h
    · cases h
  | .slice r, cs, rest, x, es, es', ids, h, vs, hv => by
    cases cs with
    | nil => simp [extC] at h
    | cons c cs =>
      obtain ⟨v, vs', rfl, h1, h2⟩ := hv
      cases es with
      | nil => cases c <;> simp [extC] at h
      | cons e es =>
        cases c with
        | emp =>
          simp only [extC, Option.some.injEq, Prod.mk.injEq] at h
          obtain ⟨rfl, rfl, rfl, rfl⟩ := h
          have h1 : v = .slice none 0 0 := h1
          subst h1
          exact ⟨[_], vs', rfl, h2, fun _ h => by simp at h, e, _, [], [], rfl, rfl, .mt none, (by cases e.2 <;> exact ⟨rfl, rfl⟩), Nat.zero_le _, rfl⟩
        | mt =>
          simp only [extC, Option.some.injEq, Prod.mk.injEq] at h
          obtain ⟨rfl, rfl, rfl, rfl⟩ := h
          obtain ⟨a, rfl⟩ := h1
          exact ⟨[_], vs', rfl, h2, fun _ h => by simp at h, e, _, [], [], rfl, rfl, .mt a, (by cases e.2 <;> exact ⟨rfl, rfl⟩), Nat.zero_le _, by rw [ownB_zero]; rfl⟩
        | arr id =>
          simp only [extC] at h
          rw [← hS] at h
          split at h
          · rename_i e' r' xs d hid
            split at h
            · rename_i y hy
              cases hb : (Nat.beq e' e.1 && (dpEq d e.2 && !isPar id)) with
              | false => rw [hb] at h; cases h
              | true =>
                rw [hb] at h
                simp only [cond_true, Option.some.injEq, Prod.mk.injEq] at h
                obtain ⟨rfl, rfl, rfl, rfl⟩ := h
                obtain ⟨he, rfl⟩ := castT_eq hy
                injection he with he
                subst he
                simp only [Bool.and_eq_true, Bool.not_eq_true'] at hb
                obtain ⟨hb, hd, hp⟩ := hb
                obtain rfl := Nat.eq_of_beq_eq_true hb
                obtain rfl := dpEq_eq hd
                obtain ⟨_, h1⟩ := h1
                rw [hid] at h1
                have h1 : v = k.ν id := h1
                obtain ⟨us, bl, h3, h4, h5, _, _, h6⟩ := objO hk hid
                refine ⟨[v], vs', rfl, h2, fun i hi => ?_, e, v, us, bl, rfl, rfl, by rw [h1]; exact h3, h4, h5, ?_⟩
                · simp at hi
                  subst hi
                  exact ⟨_, _, _, _, hid, hp⟩
                · have hbl : bl = nbK k id e.2 := h6
                  rw [h1, hbl]
                  simp only [blkD, List.flatMap_cons, List.flatMap_nil, List.append_nil]
                  exact ownL_eq hid
            · cases h
          · cases h
        | _ => simp [extC] at h
  | .bool, cs, rest, x, es, es', ids, h, vs, hv => by
    cases cs with
    | nil => simp [extC] at h
    | cons c cs =>
      obtain ⟨v, vs', rfl, h1, h2⟩ := hv
      cases c with
      | v t' y =>
        simp only [extC] at h
        split at h
        · rename_i z hz
          simp only [Option.some.injEq, Prod.mk.injEq] at h
          obtain ⟨rfl, rfl, rfl, rfl⟩ := h
          obtain ⟨he, rfl⟩ := castT_eq hz
          subst he
          exact ⟨[v], vs', rfl, h2, fun _ h => by simp at h, rfl, rfl, h1⟩
        · cases h
      | _ => simp [extC] at h
  | .int kk, cs, rest, x, es, es', ids, h, vs, hv => by
    cases cs with
    | nil => simp [extC] at h
    | cons c cs =>
      obtain ⟨v, vs', rfl, h1, h2⟩ := hv
      cases c with
      | v t' y =>
        simp only [extC] at h
        split at h
        · rename_i z hz
          simp only [Option.some.injEq, Prod.mk.injEq] at h
          obtain ⟨rfl, rfl, rfl, rfl⟩ := h
          obtain ⟨he, rfl⟩ := castT_eq hz
          subst he
          exact ⟨[v], vs', rfl, h2, fun _ h => by simp at h, rfl, rfl, h1⟩
        · cases h
      | _ => simp [extC] at h
  | .str, cs, rest, x, es, es', ids, h, vs, hv => by
    cases cs with
    | nil => simp [extC] at h
    | cons c cs =>
      obtain ⟨v, vs', rfl, h1, h2⟩ := hv
      cases c with
      | v t' y =>
        simp only [extC] at h
        split at h
        · rename_i z hz
          simp only [Option.some.injEq, Prod.mk.injEq] at h
          obtain ⟨rfl, rfl, rfl, rfl⟩ := h
          obtain ⟨he, rfl⟩ := castT_eq hz
          subst he
          exact ⟨[v], vs', rfl, h2, fun _ h => by simp at h, rfl, rfl, h1⟩
        · cases h
      | _ => simp [extC] at h

end Go.MC

/- A contract out of a run: the theorem (general). -/
set_option linter.unusedVariables false
set_option linter.unusedSimpArgs false
namespace Go.MC
open Go.RowKit

/-- Data of a result that are read, not own. -/
theorem packX_sound {F : Fx} {k : K} (hk : HeapOK F k) {H : List (Nat × Ob)} (hS : k.h = lkH H) {t : Ty} {cs : List C} {x : t.den} {l : List Nat} (h : pack true t cs (t.den × List C × List Nat) ⟨[], H⟩ [] (fun p _ => some (p.1, p.2.1, p.2.2.map (·.1))) = some (x, [], l)) {vs : List Value} (hv : relCs F k cs vs) :
    Rd k.w (k.okT F l) t x vs ∧ ∀ id ∈ l, ∃ e r xs d, k.h id = some (.arr e r xs d) ∧ isPar id = false := by
  obtain ⟨p, R, ht, hr⟩ := (good_pack true t cs).tells h
  simp only [Option.some.injEq, Prod.mk.injEq] at hr
  obtain ⟨rfl, h2, rfl⟩ := hr
  obtain ⟨l1, u, v1, rfl, hr1, ht1, hd1, hf1, hz1⟩ := pack_sound hk (S := ⟨[], H⟩) hS (x := p.1) (rest := p.2.1) (obs := p.2.2) ht hv
  rw [h2] at hr1
  simp only [relCs] at hr1
  subst hr1
  rw [List.append_nil]
  refine ⟨hd1.mono (fun b hb => okT_mono (hz1 rfl) hb) (fun _ _ _ => rfl), fun id hi => ?_⟩
  obtain ⟨q, hq, rfl⟩ := List.mem_map.1 hi
  obtain ⟨e, r, xs, d, h3, _, _, h4⟩ := hf1 q hq
  exact ⟨e, r, xs, d, h3, h4⟩

theorem OwnRd2.mono {w : World} {ok ok' : Nat → Prop} {base : Nat} (ho : ∀ c, ok c → ok' c) : ∀ {t : Ty} {x : t.den} {es : List (Nat × Option (List Nat))} {vs : List Value} {es' : List (Nat × Option (List Nat))} {os : List Nat}, OwnRd2 w ok base t x es vs es' os → OwnRd2 w ok' base t x es vs es' os
  | .bool, _, _, _, _, _, h => h
  | .int _, _, _, _, _, _, h => h
  | .str, _, _, _, _, _, h => h
  | .slice r, _, _, _, _, _, h => by
    obtain ⟨e, v, us, bl, h1, h2, h3, h4, h5, h6⟩ := h
    exact ⟨e, v, us, bl, h1, h2, h3, h4.mono ho, h5, h6⟩
  | .pair _ _, _, _, _, _, _, h => by
    obtain ⟨v1, v2, es1, o1, o2, rfl, h1, h2, rfl⟩ := h
    exact ⟨v1, v2, es1, o1, o2, rfl, h1.mono ho, h2.mono ho, rfl⟩

theorem ext1_sound {F : Fx} {k : K} (hk : HeapOK F k) {H : List (Nat × Ob)} (hS : k.h = lkH H) : ∀ {rs : List RS} {vs : List V1} {ds : List Dv} {ids tk : List Nat}, ext1 H rs vs = some (ds, ids, tk) → ∀ {vals : List Value}, relVs F k vs vals →
    ((∀ id ∈ ids, ∃ e r xs o, k.h id = some (.arr e r xs (dpO o)) ∧ isPar id = false) ∧ ∀ id ∈ tk, ∃ e r xs d, k.h id = some (.arr e r xs d) ∧ isPar id = false) ∧ ∀ {ok' : Nat → Prop}, (∀ c, k.okT F tk c → ok' c) → ∀ rest, ResRd k.w ok' 0 rs vals (ds ++ rest) rest (blkD k ids)
  | [], [], ds, ids, tk, h, vals, hv => by
    simp only [ext1, Option.some.injEq, Prod.mk.injEq] at h
    obtain ⟨rfl, rfl, rfl⟩ := h
    simp only [relVs] at hv
    subst hv
    exact ⟨⟨fun _ h => by simp at h, fun _ h => by simp at h⟩, fun _ _ => ⟨rfl, rfl, rfl⟩⟩
  | [], _ :: _, ds, ids, tk, h, vals, hv => by simp [ext1] at h
  | .any :: rs, [], ds, ids, tk, h, vals, hv => by simp [ext1] at h
  | .d t agg :: rs, [], ds, ids, tk, h, vals, hv => by simp [ext1] at h
  | .own t agg es :: rs, [], ds, ids, tk, h, vals, hv => by simp [ext1] at h
  | .any :: rs, v :: vs, ds, ids, tk, h, vals, hv => by
    obtain ⟨x, xs, rfl, h1, h2⟩ := hv
    simp only [ext1] at h
    obtain ⟨h3, h4⟩ := ext1_sound hk hS h h2
    exact ⟨h3, fun ho rest => ⟨x, xs, rfl, h4 ho rest⟩⟩
  | .d t agg :: rs, v :: vs, ds, ids, tk, h, vals, hv => by
    obtain ⟨x, xs, rfl, h1, h2⟩ := hv
    have hsh : ∃ cells, relCs F k v.cells cells ∧ shape agg cells x ∧ (match pack true t v.cells (t.den × List C × List Nat) ⟨[], H⟩ [] (fun p _ => some (p.1, p.2.1, p.2.2.map (·.1))), ext1 H rs vs with
      | some (x, [], l), some z => some ((⟨t, x⟩ :: z.1, z.2.1, l ++ z.2.2) : List Dv × List Nat × List Nat)
      | _, _ => none) = some (ds, ids, tk) := by
      cases agg with
      | true =>
        cases v with
        | one c => simp [ext1] at h
        | agg cs =>
          obtain ⟨cells, h3, h4⟩ := relV_shape_agg h1
          exact ⟨cells, h4, h3, h⟩
      | false =>
        cases v with
        | one c => exact ⟨[x], ⟨x, [], rfl, h1, rfl⟩, by simp [shape], h⟩
        | agg cs => simp [ext1] at h
    obtain ⟨cells, h3, h4, h⟩ := hsh
    split at h
    · rename_i y l z hp hz
      obtain ⟨z1, z2, z3⟩ := z
      simp only [Option.some.injEq, Prod.mk.injEq] at h
      obtain ⟨rfl, rfl, rfl⟩ := h
      obtain ⟨hrd, hla⟩ := packX_sound hk hS hp h3
      obtain ⟨h5, h6⟩ := ext1_sound hk hS hz h2
      refine ⟨⟨h5.1, fun id hi => (List.mem_append.1 hi).elim (hla id) (h5.2 id)⟩, fun {ok'} ho rest => ⟨x, xs, y, z1 ++ rest, cells, rfl, rfl, hrd.mono (fun c hc => ho c (okT_mono (fun i hi => List.mem_append.2 (.inl hi)) hc)) (fun _ _ _ => rfl), h4, h6 (fun c hc => ho c (okT_mono (fun i hi => List.mem_append.2 (.inr hi)) hc)) rest⟩⟩
    · cases h
  | .own t agg es :: rs, v :: vs, ds, ids, tk, h, vals, hv => by
    obtain ⟨x, xs, rfl, h1, h2⟩ := hv
    have hsh : ∃ cells, relCs F k v.cells cells ∧ shape agg cells x ∧ (match extC H t v.cells es, ext1 H rs vs with
      | some (x, [], [], ids), some z => some ((⟨t, x⟩ :: z.1, ids ++ z.2.1, z.2.2) : List Dv × List Nat × List Nat)
      | _, _ => none) = some (ds, ids, tk) := by
      cases agg with
      | true =>
        cases v with
        | one c => simp [ext1] at h
        | agg cs =>
          obtain ⟨cells, h3, h4⟩ := relV_shape_agg h1
          exact ⟨cells, h4, h3, h⟩
      | false =>
        cases v with
        | one c => exact ⟨[x], ⟨x, [], rfl, h1, rfl⟩, by simp [shape], h⟩
        | agg cs => simp [ext1] at h
    obtain ⟨cells, h3, h4, h⟩ := hsh
    split at h
    · rename_i y i1 z hp hz
      obtain ⟨z1, z2, z3⟩ := z
      simp only [Option.some.injEq, Prod.mk.injEq] at h
      obtain ⟨rfl, rfl, rfl⟩ := h
      obtain ⟨u, w, rfl, g1, g2, g3⟩ := extC_sound hk hS hp h3
      simp only [relCs] at g1
      subst g1
      rw [List.append_nil] at h4
      obtain ⟨h5, h6⟩ := ext1_sound hk hS hz h2
      refine ⟨⟨fun id hi => ?_, h5.2⟩, fun {ok'} ho rest => ⟨x, xs, y, z1 ++ rest, u, blkD k i1, blkD k z2, rfl, rfl, g3.mono (fun c hc => ho c (.inl hc)), h4, h6 ho rest, by simp [blkD]⟩⟩
      rcases List.mem_append.1 hi with hi | hi
      · exact g2 id hi
      · exact h5.1 id hi
    · cases h

theorem extB_sound {F : Fx} {k : K} (hk : HeapOK F k) {H : List (Nat × Ob)} (hS : k.h = lkH H) : ∀ {ps : List PS} {bxs : List (Nat × Hd)} {ds : List Dv} {tk : List Nat}, BxOf ps bxs → extB H bxs = some (ds, tk) →
    (∀ id ∈ tk, ∃ e r xs d, k.h id = some (.arr e r xs d) ∧ isPar id = false) ∧ (∀ p ∈ bxs, isMv p.2 = false → HdIn k p) ∧ ∀ {ok' : Nat → Prop}, (∀ c, k.okT F tk c → ok' c) → BoxRd k.w ok' ps (bxs.map (hvK k)) ds (bxs.flatMap (bkK k))
  | [], bxs, ds, tk, hb, h => by
    have hb : bxs = [] := hb
    subst hb
    simp only [extB, Option.some.injEq, Prod.mk.injEq] at h
    obtain ⟨rfl, rfl⟩ := h
    exact ⟨fun _ h => by simp at h, fun _ h => by simp at h, fun _ => ⟨rfl, rfl, rfl⟩⟩
  | .d _ _ :: ps, bxs, ds, tk, hb, h => extB_sound (ps := ps) hk hS hb h
  | .cl _ _ :: _, bxs, ds, tk, hb, h => hb.elim
  | .sp _ :: _, bxs, ds, tk, hb, h => hb.elim
  | .mv e r o :: ps, bxs, ds, tk, hb, h => by
    obtain ⟨id, l, rfl, hb⟩ := hb
    simp only [extB] at h
    obtain ⟨h5, h7, h6⟩ := extB_sound (ps := ps) hk hS hb h
    refine ⟨h5, fun p hp => ?_, fun {ok'} ho => ⟨_, rfl, h6 ho⟩⟩
    rcases List.mem_cons.1 hp with rfl | hp
    · exact fun h => by cases h
    · exact h7 p hp
  | .bx t :: ps, bxs, ds, tk, hb, h => by
    obtain ⟨id, l, rfl, hb⟩ := hb
    simp only [extB] at h
    rw [← hS] at h
    split at h
    · rename_i cs hid
      split at h
      · rename_i y l1 z hp hz
        obtain ⟨z1, z2⟩ := z
        simp only [Option.some.injEq, Prod.mk.injEq] at h
        obtain ⟨rfl, rfl⟩ := h
        obtain ⟨vs, T, h1, h2⟩ := hk.obj id _ hid
        obtain ⟨hrd, hla⟩ := packX_sound hk hS hp h2
        obtain ⟨h5, h7, h6⟩ := extB_sound (ps := ps) hk hS hb hz
        refine ⟨fun i hi => (List.mem_append.1 hi).elim (hla i) (h5 i), fun p hp => ?_, fun {ok'} ho => ⟨k.μ id, _, y, z1, vs, T, _, rfl, rfl, rfl, h1, hrd.mono (fun c hc => ho c (okT_mono (fun i hi => List.mem_append.2 (.inl hi)) hc)) (fun _ _ _ => rfl), h6 (fun c hc => ho c (okT_mono (fun i hi => List.mem_append.2 (.inr hi)) hc))⟩⟩
        rcases List.mem_cons.1 hp with rfl | hp
        · exact fun _ => ⟨cs, hid⟩
        · exact h7 p hp
      · cases h
    · cases h
  | .ow e r o :: ps, bxs, ds, tk, hb, h => by
    obtain ⟨id, l, rfl, hb⟩ := hb
    simp only [extB] at h
    rw [← hS] at h
    split at h
    · rename_i e' r' xs d hid
      cases hc : (Nat.beq e' e && dpEq d o) with
      | false => rw [hc] at h; cases h
      | true =>
        rw [hc] at h
        simp only [cond_true] at h
        split at h
        · rename_i y z hp hz
          obtain ⟨z1, z2⟩ := z
          simp only [Option.some.injEq, Prod.mk.injEq] at h
          obtain ⟨rfl, rfl⟩ := h
          simp only [Bool.and_eq_true] at hc
          obtain rfl := Nat.eq_of_beq_eq_true hc.1
          obtain rfl := dpEq_eq hc.2
          obtain ⟨he, rfl⟩ := castT_eq hp
          injection he with he
          subst he
          obtain ⟨us, bl, g1, g2, g3, _, _, g4⟩ := objO hk hid
          obtain ⟨h5, h7, h6⟩ := extB_sound (ps := ps) hk hS hb hz
          refine ⟨h5, fun p hp => ?_, fun {ok'} ho => ⟨k.ν id, _, xs, z1, us, bl, _, rfl, rfl, by rw [g4]; rfl, ownsRow_base g1 (Nat.zero_le _), (g2.base (Nat.zero_le _)).mono fun c hc => ho c (.inl hc), g3, h6 ho⟩⟩
          rcases List.mem_cons.1 hp with rfl | hp
          · exact fun _ => ⟨_, hid⟩
          · exact h7 p hp
        · cases h
    · cases h

theorem entOf_mem : ∀ {l : List (Nat × Hd)} {p : Nat × Hd}, p ∈ l → isMv p.2 = false → p.1 ∈ entOf l
  | [], _, h, _ => by simp at h
  | (i, hd) :: l, p, h, hm => by
    simp only [entOf]
    rcases List.mem_cons.1 h with rfl | h
    · rw [hm]; simp
    · have := entOf_mem h hm
      cases isMv hd <;> simp [this]
def lkLie : List Lie → Nat → Lie
  | [], _ => ⟨0, 0, .slice none 0 0, []⟩
  | x :: l, i => if x.n = i then x else lkLie l i
theorem lkLie_mem : ∀ {l : List Lie}, (l.map Lie.n).Nodup → ∀ {x : Lie}, x ∈ l → lkLie l x.n = x
  | [], _, x, h => by simp at h
  | y :: l, hn, x, h => by
    simp only [List.map_cons, List.nodup_cons] at hn
    simp only [lkLie]
    rcases List.mem_cons.1 h with rfl | h
    · simp
    · rw [if_neg (fun e => hn.1 (List.mem_map.2 ⟨x, h, e.symm⟩))]
      exact lkLie_mem hn.2 h
theorem ownL_nodup {F : Fx} {k : K} (hk : HeapOK F k) {id e : Nat} {r : Ty} {xs : List r.den} {o : Option (List Nat)} (h : k.h id = some (.arr e r xs (dpO o))) : (ownL k id).Nodup := by
  obtain ⟨us, bl, _, _, _, _, h1, h2⟩ := objO hk h
  rw [ownL_eq h, ← h2]
  exact h1

section mem
variable {P : Program}

theorem contract_of {TT : Nat → Option TD} {Φ : Nat → Option Summ} {inl : (ρ : Type) → Nat → List AV → List (Nat × Ob) → (AV → List (Nat × Ob) → Option ρ) → Option ρ} {N : Nat} (hTT : TTok P TT) (hΦ : CallOK P Φ) (hinl : InlOK P inl) (hm : P.follows .mixedOrders = true)
    {g : Nat} {f : FI} (hf : FnOK P g f) {s : Summ} (hl : s.ps.length ≤ f.ntmps) (hrun : ∀ ds, DsFit (flatP s.ps) ds → s.pre ds = true → ∃ (R : Type) (d : List Dv → Option R) (r : R), runST d TT Φ inl N f s ds = some r ∧ ∀ ds', d ds' = some r → ds' = s.out ds) : Contract P g s := by
  refine ⟨fun args w => hf.calls args w, fun w ok args fargs ds hv0 bs hfv ha hbn hbr hok hpre => ?_⟩
  obtain ⟨R0, d0, r0, hr, hout⟩ := hrun ds (argsRd_fit ha) hpre
  unfold runST at hr
  split at hr
  case h_2 => cases hr
  rename_i pz hpars
  obtain ⟨avs, H, bxs⟩ := pz
  obtain ⟨lies, g1, g2, g3, g4, g5, g6, g7⟩ := pars_sound hpars ha
  dsimp only at hr
  split at hr
  case h_2 => cases hr
  rename_i avs' hun
  let F : Fx := ⟨w.heap.size, ok, (· ∈ bs), w, hok, fun b h1 h2 => (hbr b h2).2 h1⟩
  let k0 : K := ⟨w, lkH H, fun i => (lkLie lies i).μ, fun i => (lkLie lies i).ν, fun i => (lkLie lies i).nb⟩
  have hlie : ∀ x ∈ lies, LieOK k0 x := by
    intro x hx
    have := lkLie_mem (by rw [g2]; exact g5) hx
    exact ⟨congrArg Lie.μ this, congrArg Lie.ν this, congrArg Lie.nb this⟩
  have hH : ∀ p ∈ H, k0.h p.1 = some p.2 := fun p hp => lkH_nodup (by rw [g1]; exact g5) hp
  obtain ⟨hrel, hobj, hhv, hin, hbsq⟩ := g7 (F := F) (k := k0) rfl (fun c hc => .inl hc) hH hlie hbn
  have hown : ∀ i c, k0.own i c → ∃ p ∈ bxs, p.1 = i ∧ c ∈ bsK k0 p := by
    intro i c h
    have h0 := h
    unfold K.own at h
    cases hi : k0.h i with
    | none => rw [hi] at h; exact h.elim
    | some o =>
      have hmem := lkH_some (show lkH H i = some o from hi)
      have : i ∈ bxs.map (·.1) := by rw [← g1]; exact List.mem_map.2 ⟨_, hmem, rfl⟩
      obtain ⟨p, hp, rfl⟩ := List.mem_map.1 this
      exact ⟨p, hp, rfl, (own_bsK (hin p hp) c).1 h0⟩
  have hk0 : HeapOK F k0 := by
    refine ⟨fun i o h => hobj (i, o) (lkH_some h), fun i j c h1 h2 => ?_, fun i c h => ?_, fun _ _ _ => rfl, Nat.le_refl _, rfl, rfl, rfl⟩
    · obtain ⟨p, hp, rfl, h3⟩ := hown i c h1
      obtain ⟨q, hq, rfl, h4⟩ := hown j c h2
      rw [flatMap_inj (by rw [hbsq]; exact hbn) hp hq h3 h4]
    · obtain ⟨p, hp, rfl, h3⟩ := hown i c h
      have : c ∈ bs := by rw [← hbsq]; exact List.mem_flatMap.2 ⟨p, hp, h3⟩
      exact ⟨.inr this, (hbr c this).1⟩
  obtain ⟨hrel', hlen⟩ := unfl_sound hun hfv hrel
  refine runF_sound hTT hΦ hinl hm hf hr (F := F) (k := k0) hk0 rfl hrel' (by rw [hlen]; exact hl) ?_
  intro v av k' H' hkx hS' hk' hle hv
  unfold kT at hkx
  split at hkx
  case h_2 => cases hkx
  rename_i ds' hkx'
  replace hkx : kExt s bxs av H' = some (s.out ds) := by rw [← hout ds' hkx]; exact hkx'
  unfold kExt at hkx
  split at hkx
  case h_2 => cases hkx
  rename_i l hl'
  split at hkx
  case h_2 => cases hkx
  rename_i z b hz hb
  obtain ⟨z1, ids, tk⟩ := z
  obtain ⟨b1, btk⟩ := b
  dsimp only at hkx
  cases hc : (nodupN ids && disjN ids (tk ++ btk)) with
  | false => rw [hc] at hkx; cases hkx
  | true =>
    rw [hc] at hkx
    simp only [cond_true, Option.some.injEq] at hkx
    simp only [Bool.and_eq_true] at hc
    obtain ⟨hnd, hdis⟩ := hc
    have hnd := nodupN_nodup hnd
    obtain ⟨vals, hvals, hvrel⟩ : ∃ vals, v = tupValue vals ∧ relVs F k' l vals := by
      cases av with
      | w v1 =>
        simp only [AV.list, Option.some.injEq] at hl'
        subst hl'
        exact ⟨[v], rfl, v, [], rfl, hv, rfl⟩
      | tup vs =>
        obtain ⟨xs, rfl, hx⟩ := hv
        cases vs with
        | nil =>
          simp only [AV.list, Option.some.injEq] at hl'
          subst hl'
          simp only [relVs] at hx
          subst hx
          exact ⟨[], rfl, rfl⟩
        | cons v1 vs =>
          cases vs with
          | nil => simp [AV.list] at hl'
          | cons v2 vs =>
            simp only [AV.list, Option.some.injEq] at hl'
            subst hl'
            have hx0 := hx
            obtain ⟨x1, xs1, rfl, _, hx⟩ := hx
            obtain ⟨x2, xs2, rfl, _, hx⟩ := hx
            exact ⟨_, rfl, hx0⟩
    obtain ⟨⟨harr, hta⟩, hres⟩ := ext1_sound hk' hS' hz hvrel
    obtain ⟨htb, hin', hbox⟩ := extB_sound hk' hS' g6 hb
    have hblk : ∀ c, c ∈ blkD k' ids ↔ ∃ id ∈ ids, k'.own id c := by
      intro c
      unfold blkD
      rw [List.mem_flatMap]
      constructor
      · rintro ⟨id, hi, h1⟩
        obtain ⟨e, r, xs, o, h2, _⟩ := harr id hi
        exact ⟨id, hi, (ownL_mem h2 c).2 h1⟩
      · rintro ⟨id, hi, h1⟩
        obtain ⟨e, r, xs, o, h2, _⟩ := harr id hi
        exact ⟨id, hi, (ownL_mem h2 c).1 h1⟩
    have hbk : ∀ p ∈ bxs, ∀ c, c ∈ bkK k' p ↔ (isMv p.2 = false ∧ k'.own p.1 c) := by
      intro p hp c
      obtain ⟨pi, pd⟩ := p
      cases pd with
      | mv e r o => simp [bkK, isMv]
      | bx t =>
        have := own_bsK (hin' _ hp rfl) c
        constructor
        · exact fun h => ⟨rfl, this.2 h⟩
        · exact fun h => this.1 h.2
      | ow e r o =>
        have := own_bsK (hin' _ hp rfl) c
        constructor
        · exact fun h => ⟨rfl, this.2 h⟩
        · exact fun h => this.1 h.2
    have hbsm : ∀ c, c ∈ bxs.flatMap (bkK k') ↔ ∃ p ∈ bxs, isMv p.2 = false ∧ k'.own p.1 c := by
      intro c
      rw [List.mem_flatMap]
      constructor
      · rintro ⟨p, hp, h1⟩
        exact ⟨p, hp, (hbk p hp c).1 h1⟩
      · rintro ⟨p, hp, h1⟩
        exact ⟨p, hp, (hbk p hp c).2 h1⟩
    have hrng : ∀ id c, k'.own id c → (w.heap.size ≤ c ∨ c ∈ bs) ∧ c < k'.w.heap.size := fun id c h => hk'.rng id c h
    -- a result's array, or one that is taken, is none that comes back
    have hne : ∀ id, (∃ e r xs d, k'.h id = some (.arr e r xs d) ∧ isPar id = false) → ∀ p ∈ bxs, isMv p.2 = false → id ≠ p.1 := by
      rintro id ⟨e, r, xs, d, h1, h2⟩ p hp hm rfl
      have h3 := hin' p hp hm
      obtain ⟨pi, pd⟩ := p
      cases pd with
      | bx t =>
        obtain ⟨cs, h4⟩ := h3
        dsimp only at h1 h4
        rw [h1] at h4
        cases h4
      | mv e' r' o' => cases hm
      | ow e' r' o' =>
        rcases g4 _ hp with ⟨j, _, _, _, h4⟩ | ⟨j, _, h4, h5, _⟩ | ⟨j, _, _, _, h4⟩
        · cases h4
        · have := parId_par (i := j) (Nat.ble_eq_true_of_le (by omega))
          dsimp only at h2 h5
          rw [← h5, h2] at this
          cases this
        · cases h4
    have harr' : ∀ id ∈ ids, ∃ e r xs d, k'.h id = some (.arr e r xs d) ∧ isPar id = false := fun id hi => by
      obtain ⟨e, r, xs, o, h1, h2⟩ := harr id hi
      exact ⟨e, r, xs, _, h1, h2⟩
    have hokT : ∀ (tk' : List Nat), (∀ i ∈ tk', i ∈ tk ++ btk) → ∀ c, k'.okT F tk' c → ok c ∨ ((w.heap.size ≤ c ∨ c ∈ bs) ∧ c < k'.w.heap.size ∧ c ∉ blkD k' ids ++ bxs.flatMap (bkK k')) := by
      rintro tk' hsub c (hc | ⟨id, hi, ho⟩)
      · rcases hc with hc | ⟨h1, h2, h3⟩
        · exact .inl hc
        · refine .inr ⟨h1, h2, fun hm => ?_⟩
          rcases List.mem_append.1 hm with hm | hm
          · obtain ⟨id, _, ho⟩ := (hblk c).1 hm
            exact h3 id ho
          · obtain ⟨p, _, _, ho⟩ := (hbsm c).1 hm
            exact h3 _ ho
      · have ha : ∃ e r xs d, k'.h id = some (.arr e r xs d) ∧ isPar id = false := (List.mem_append.1 (hsub id hi)).elim (hta id) (htb id)
        have hrg := hrng id c ho
        refine .inr ⟨hrg.1, hrg.2, fun hm => ?_⟩
        rcases List.mem_append.1 hm with hm | hm
        · obtain ⟨id2, hi2, ho2⟩ := (hblk c).1 hm
          obtain rfl := hk'.inj id2 id c ho2 ho
          exact disjN_not hdis hi2 (hsub _ hi)
        · obtain ⟨p, hp, hmv, ho2⟩ := (hbsm c).1 hm
          exact hne id ha p hp hmv (hk'.inj id p.1 c ho ho2)
    have hhv' : bxs.map (hvK k') = hv0 := by
      rw [← hhv]
      refine List.map_congr_left fun p hp => ?_
      have h1 := hin p hp
      have h2 := hin' p hp
      obtain ⟨pi, pd⟩ := p
      cases pd with
      | mv e r o => rfl
      | bx t =>
        obtain ⟨cs, h3⟩ := h1
        show HV.bx (k'.μ pi) = HV.bx (k0.μ pi)
        rw [(hle.box pi (entOf_mem hp rfl) cs h3).2]
      | ow e r o =>
        obtain ⟨xs, h3⟩ := h1
        obtain ⟨xs', h4⟩ := h2 rfl
        show HV.ow (k'.ν pi) = HV.ow (k0.ν pi)
        rcases hle.arr pi (entOf_mem hp rfl) _ _ _ _ h3 with ⟨_, _, h5, _, h6⟩ | ⟨_, _, h5, _⟩ | h5
        · rw [h6]
        · dsimp only at h4
          rw [h4] at h5; cases h5
        · dsimp only at h4
          rw [h4] at h5; cases h5
    have hbox := hbox (ok' := fun c => ok c ∨ ((w.heap.size ≤ c ∨ c ∈ bs) ∧ c < k'.w.heap.size ∧ c ∉ blkD k' ids ++ bxs.flatMap (bkK k'))) (hokT btk fun i hi => List.mem_append.2 (.inr hi))
    rw [hhv'] at hbox
    have hres := hres (ok' := fun c => ok c ∨ ((w.heap.size ≤ c ∨ c ∈ bs) ∧ c < k'.w.heap.size ∧ c ∉ blkD k' ids ++ bxs.flatMap (bkK k'))) (hokT tk fun i hi => List.mem_append.2 (.inl hi)) b1
    rw [hkx] at hres
    have hbnd : (blkD k' ids).Nodup := by
      have : ∀ {l : List Nat}, l.Nodup → (∀ id ∈ l, ∃ e r xs o, k'.h id = some (.arr e r xs (dpO o)) ∧ isPar id = false) → (blkD k' l).Nodup := by
        intro l
        induction l with
        | nil => exact fun _ _ => List.nodup_nil
        | cons i l ih =>
          intro h1 h2
          obtain ⟨h3, h4⟩ := List.nodup_cons.1 h1
          obtain ⟨e1, r1, xs1, o1, h7, _⟩ := h2 i (by simp)
          have e : blkD k' (i :: l) = ownL k' i ++ blkD k' l := by simp [blkD]
          rw [e]
          refine List.nodup_append.2 ⟨ownL_nodup hk' h7, ih h4 fun id hi => h2 id (by simp [hi]), fun c h5 c' h6 hcc => ?_⟩
          subst hcc
          unfold blkD at h6
          obtain ⟨j, hj, h8⟩ := List.mem_flatMap.1 h6
          obtain ⟨e2, r2, xs2, o2, h9, _⟩ := h2 j (by simp [hj])
          exact h3 (hk'.inj i j c ((ownL_mem h7 c).2 h5) ((ownL_mem h9 c).2 h8) ▸ hj)
      exact this hnd harr
    have hbxn : (bxs.flatMap (bkK k')).Nodup := by
      have : ∀ {bx : List (Nat × Hd)}, (∀ p ∈ bx, isMv p.2 = false → HdIn k' p) → (∀ p ∈ bx, ∀ c, c ∈ bkK k' p ↔ (isMv p.2 = false ∧ k'.own p.1 c)) → (bx.map (·.1)).Nodup → (bx.flatMap (bkK k')).Nodup := by
        intro bx
        induction bx with
        | nil => exact fun _ _ _ => List.nodup_nil
        | cons p bx ih =>
          intro h1 h0 h2
          simp only [List.map_cons, List.nodup_cons] at h2
          rw [List.flatMap_cons]
          refine List.nodup_append.2 ⟨?_, ih (fun q hq => h1 q (by simp [hq])) (fun q hq => h0 q (by simp [hq])) h2.2, fun c hc c' hc' hcc => ?_⟩
          · obtain ⟨pi, pd⟩ := p
            cases pd with
            | mv e r o => exact List.nodup_nil
            | bx t => exact bsK_nodup hk' (h1 _ List.mem_cons_self rfl)
            | ow e r o => exact bsK_nodup hk' (h1 _ List.mem_cons_self rfl)
          · subst hcc
            obtain ⟨q, hq, h3⟩ := List.mem_flatMap.1 hc'
            have h4 := ((h0 p (by simp) c).1 hc).2
            have h5 := ((h0 q (by simp [hq]) c).1 h3).2
            exact h2.1 (List.mem_map.2 ⟨q, hq, hk'.inj q.1 p.1 _ h5 h4⟩)
      exact this hin' hbk g5
    refine ⟨vals, b1, blkD k' ids, bxs.flatMap (bkK k'), by rw [hvals], hle.size, fun c hc hcb => hk'.frame c hc hcb, hk'.os, hk'.tape, hk'.output, List.nodup_append.2 ⟨hbnd, hbxn, fun c h1 c' h2 hcc => ?_⟩, fun c hc => ?_, fun c hc => ?_, hres, hbox⟩
    · subst hcc
      obtain ⟨id, hi, ho⟩ := (hblk c).1 h1
      obtain ⟨p, hp, hm, ho2⟩ := (hbsm c).1 h2
      exact hne id (harr' id hi) p hp hm (hk'.inj id p.1 c ho ho2)
    · obtain ⟨id, hi, ho⟩ := (hblk c).1 hc
      have := hrng id c ho
      exact this.1.elim (fun h => .inr ⟨h, this.2⟩) .inl
    · obtain ⟨p, hp, _, ho⟩ := (hbsm c).1 hc
      have := hrng p.1 c ho
      exact this.1.elim (fun h => .inr ⟨h, this.2⟩) .inl

end mem
end Go.MC

/- Names for the parts of a function's text: a loop's body, what comes behind it (general). -/
set_option linter.unusedVariables false
set_option linter.unusedSimpArgs false
namespace Go.MC
open Go.RowKit

def bodyOf : Option Code → Code
  | some c => c
  | none => .skip
/-- Is the loop of block t in this text, outside of other loops? -/
def hasLp : Code → Nat → Nat → Bool
  | .seq a b, cur, t => hasLp a cur t || hasLp b cur t
  | .cond _ a b, cur, t => hasLp a cur t || hasLp b cur t
  | .block id c, _, t => hasLp c id t
  | .loop _, cur, t => Nat.beq cur t
  | _, _, _ => false
/-- The body of the loop of block t. -/
def lpIn : Code → Nat → Nat → Code
  | .seq a b, cur, t => bif hasLp a cur t then lpIn a cur t else lpIn b cur t
  | .cond _ a b, cur, t => bif hasLp a cur t then lpIn a cur t else lpIn b cur t
  | .block id c, _, t => lpIn c id t
  | .loop c, _, _ => c
  | _, _, _ => .skip
/-- What comes behind the loop of block t. -/
noncomputable def contOf (E : Env) {ρ : Type} : Code → Nat → Nat → (X → St → Option ρ) → X → St → Option ρ
  | .seq a b, cur, t, k => bif hasLp a cur t then contOf E a cur t (kSeq (code E b cur) k) else contOf E b cur t k
  | .cond _ a b, cur, t, k => bif hasLp a cur t then contOf E a cur t k else contOf E b cur t k
  | .block id c, _, t, k => contOf E c id t (kBlk id k)
  | _, _, _, k => k

end Go.MC

/- The table of types, checked (general). -/
set_option linter.unusedVariables false
set_option linter.unusedSimpArgs false
namespace Go.MC
open Go.RowKit

def zeroB : List C → List Value → Bool
  | [], [] => true
  | .u :: cs, _ :: vs => zeroB cs vs
  | .emp :: cs, .slice none 0 0 :: vs => zeroB cs vs
  | .v .bool b :: cs, .bool c :: vs => decide (b = c) && zeroB cs vs
  | .v (.int k) n :: cs, .int j m :: vs => decide (j = k) && (decide (m = n) && (okInt k n && zeroB cs vs))
  | .v .str s :: cs, .string t :: vs => decide (t.data.toList = s) && (Nat.ble s.length lim && zeroB cs vs)
  | _, _ => false

theorem zeroB_rel {F : Fx} {k : K} : ∀ {cs : List C} {vs : List Value}, zeroB cs vs = true → relCs F k cs vs := by
  intro cs vs h
  induction cs generalizing vs with
  | nil =>
    cases vs with
    | nil => rfl
    | cons v vs => simp [zeroB] at h
  | cons c cs ih =>
    unfold zeroB at h
    split at h
    · rename_i h1; cases h1
    · rename_i h1; cases h1
      exact ⟨_, _, rfl, trivial, ih h⟩
    · rename_i h1; cases h1
      exact ⟨_, _, rfl, rfl, ih h⟩
    · rename_i b _ c _ h1; cases h1
      simp only [Bool.and_eq_true, decide_eq_true_eq] at h
      obtain ⟨rfl, h⟩ := h
      exact ⟨_, _, rfl, rfl, ih h⟩
    · rename_i h1; cases h1
      simp only [Bool.and_eq_true, decide_eq_true_eq] at h
      obtain ⟨rfl, rfl, h2, h⟩ := h
      refine ⟨_, _, rfl, ⟨rfl, ?_⟩, ih h⟩
      simpa [okInt, IntKind.has] using h2
    · rename_i h1; cases h1
      simp only [Bool.and_eq_true, decide_eq_true_eq] at h
      obtain ⟨rfl, h2, h⟩ := h
      exact ⟨_, _, rfl, ⟨rfl, Nat.le_of_ble_eq_true h2⟩, ih h⟩
    · cases h

def rdZ : Ty → List Value → Option (List Value)
  | .bool, .bool false :: vs => some vs
  | .int k, .int j m :: vs => bif decide (j = k) && decide (m = 0) then some vs else none
  | .str, .string s :: vs => bif decide (s.data.toList = []) then some vs else none
  | .slice _, .slice none 0 0 :: vs => some vs
  | .pair a b, vs => match rdZ a vs with
    | some vs' => rdZ b vs'
    | none => none
  | _, _ => none

theorem rdZ_rd {w : World} {ok : Nat → Prop} : ∀ {t : Ty} {vs rest : List Value}, rdZ t vs = some rest → ∃ u, vs = u ++ rest ∧ Rd w ok t t.dflt u
  | .bool, vs, rest, h => by
    unfold rdZ at h
    split at h
    all_goals first | (cases h; done) | skip
    · rename_i h1; cases h; exact ⟨[_], rfl, rfl⟩
    all_goals (rename_i h1; cases h1)
  | .int k, vs, rest, h => by
    unfold rdZ at h
    split at h
    all_goals first | (cases h; done) | skip
    all_goals rename_i h1
    all_goals first | (cases h1; done) | skip
    injection h1 with h1
    subst h1
    rename_i j m vs
    cases hb : (decide (j = k) && decide (m = 0)) with
    | false => rw [hb] at h; cases h
    | true =>
      rw [hb] at h
      simp only [Bool.and_eq_true, decide_eq_true_eq] at hb
      obtain ⟨rfl, rfl⟩ := hb
      simp only [cond_true, Option.some.injEq] at h
      subst h
      exact ⟨[_], rfl, rfl, has_zero _⟩
  | .str, vs, rest, h => by
    unfold rdZ at h
    split at h
    all_goals first | (cases h; done) | skip
    all_goals rename_i h1
    all_goals first | (cases h1; done) | skip
    rename_i s vs
    cases hb : decide (s.data.toList = []) with
    | false => rw [hb] at h; cases h
    | true =>
      rw [hb] at h
      have hb := of_decide_eq_true hb
      simp only [cond_true, Option.some.injEq] at h
      subst h
      refine ⟨[_], rfl, ?_, Nat.zero_le _⟩
      obtain ⟨⟨l⟩⟩ := s
      have hb : l = [] := hb
      subst hb
      rfl
  | .slice r, vs, rest, h => by
    unfold rdZ at h
    split at h
    all_goals first | (cases h; done) | skip
    all_goals rename_i h1
    all_goals first | (cases h1; done) | skip
    all_goals first | (cases h; exact ⟨[_], rfl, Rd.nil _ _ _⟩) | skip
  | .pair a b, vs, rest, h => by
    simp only [rdZ] at h
    split at h
    · rename_i vs' h1
      obtain ⟨u, rfl, h2⟩ := rdZ_rd (w := w) (ok := ok) h1
      obtain ⟨v, rfl, h3⟩ := rdZ_rd (w := w) (ok := ok) h
      exact ⟨u ++ v, by simp, u, v, rfl, h2, h3⟩
    · cases h


theorem rdZ_own {w : World} {ok : Nat → Prop} {base : Nat} : ∀ {t : Ty} {vs rest : List Value} {ns : List Nat}, rdZ t vs = some rest → nsl t ≤ ns.length → ∃ u, vs = u ++ rest ∧ OwnRd w ok base t t.dflt ns u (ns.drop (nsl t)) []
  | .bool, vs, rest, ns, h, _ => by
    obtain ⟨u, h1, h2⟩ := rdZ_rd (w := w) (ok := ok) h
    exact ⟨u, h1, rfl, rfl, h2⟩
  | .int k, vs, rest, ns, h, _ => by
    obtain ⟨u, h1, h2⟩ := rdZ_rd (w := w) (ok := ok) h
    exact ⟨u, h1, rfl, rfl, h2⟩
  | .str, vs, rest, ns, h, _ => by
    obtain ⟨u, h1, h2⟩ := rdZ_rd (w := w) (ok := ok) h
    exact ⟨u, h1, rfl, rfl, h2⟩
  | .slice r, vs, rest, ns, h, hn => by
    cases ns with
    | nil => simp [nsl] at hn
    | cons e ns =>
      unfold rdZ at h
      split at h
      all_goals first | (cases h; done) | skip
      all_goals rename_i h1
      all_goals first | (cases h1; done) | skip
      all_goals first | (cases h; exact ⟨[_], rfl, e, _, [], rfl, rfl, .mt none, rfl, Nat.zero_le _, rfl⟩) | skip
  | .pair a b, vs, rest, ns, h, hn => by
    simp only [nsl] at hn
    simp only [rdZ] at h
    split at h
    · rename_i vs' h1
      obtain ⟨u, rfl, h2⟩ := rdZ_own (w := w) (ok := ok) (base := base) (ns := ns) h1 (by omega)
      obtain ⟨v, rfl, h3⟩ := rdZ_own (w := w) (ok := ok) (base := base) (ns := ns.drop (nsl a)) h (by rw [List.length_drop]; omega)
      rw [List.drop_drop] at h3
      exact ⟨u ++ v, by simp, u, v, _, [], [], rfl, h2, h3, rfl⟩
    · cases h

def tyB : Ty → TypeDesc → Nat → Bool
  | .bool, .bool, _ => true
  | .int k, .int j, _ => decide (j = k)
  | .str, .string, _ => true
  | .slice _, .slice e, n => Nat.beq e n
  | .pair _ _, _, _ => true
  | _, _, _ => false

def fldB (P : Program) (f : Nat × Nat) : Bool := match P.info? f.1 with
  | some ti => Nat.ble 1 ti.size
  | none => false

def isStr : Option TypeDesc → Bool
  | some .string => true
  | _ => false
def isBool : Option TypeDesc → Bool
  | some .bool => true
  | _ => false
def isInt (k : IntKind) : Option TypeDesc → Bool
  | some (.int j) => decide (j = k)
  | _ => false

def eqsB (P : Program) : Nat → List Field → List Ty → Bool
  | _, [], [] => true
  | i, f :: fs, t :: ts => (f.name != "_") && (Nat.beq f.offset i && ((match t with
    | .bool => isBool (P.underlying f.type)
    | .str => isStr (P.underlying f.type)
    | .int k => isInt k (P.underlying f.type)
    | _ => false) && eqsB P (i + 1) fs ts))
  | _, _, _ => false

def nsB (td : TD) : Bool := match td.ns with
  | [] => true
  | n :: ns => td.dat && Nat.beq (nsl td.ty) (n :: ns).length
def tdB (P : Program) (t : Nat) (td : TD) : Bool := match P.info? t, P.underlying t with
  | some ti, some d => (match ti.zero with
    | some z => Nat.beq ti.size td.sz && (Nat.beq ti.bytes td.bytes && (Nat.beq z.cells.size td.sz && (zeroB td.zero z.cells.toList && ((bif td.dat then (match rdZ td.ty z.cells.toList with
      | some [] => true
      | _ => false) else true) && nsB td))))
    | none => false) && (tyB td.ty d td.elem && (Nat.ble 1 td.sz && ((match d with
    | .struct fs => td.agg && decide (fs.toList.map (fun f => (f.type, f.offset)) = td.flds)
    | .array _ _ => false
    | _ => !td.agg && (Nat.beq td.sz 1 && td.flds.isEmpty)) && (td.flds.all (fldB P) && (bif td.eqs.isEmpty then true else match d with
    | .struct fs => !P.stoodInHeld t && (!P.eqGuardType P.depth t && eqsB P 0 fs.toList td.eqs)
    | _ => false)))))
  | _, _ => false

theorem eqsB_ok {P : Program} : ∀ {fs : List Field} {ts : List Ty} {i : Nat}, eqsB P i fs ts = true → fs.length = ts.length ∧ ∀ (j : Nat) (f : Field), fs[j]? = some f → f.name ≠ "_" ∧ f.offset = i + j ∧ ((ts[j]? = some .bool ∧ P.underlying f.type = some .bool) ∨ (ts[j]? = some .str ∧ P.underlying f.type = some .string) ∨ ∃ k, ts[j]? = some (.int k) ∧ P.underlying f.type = some (.int k))
  | [], [], i, h => ⟨rfl, fun j f hj => by simp at hj⟩
  | [], _ :: _, i, h => by simp [eqsB] at h
  | _ :: _, [], i, h => by simp [eqsB] at h
  | f :: fs, t :: ts, i, h => by
    simp only [eqsB, Bool.and_eq_true] at h
    obtain ⟨h1, h2, h3, h4⟩ := h
    obtain ⟨h5, h6⟩ := eqsB_ok h4
    refine ⟨by simp [h5], fun j g hj => ?_⟩
    cases j with
    | zero =>
      simp only [List.getElem?_cons_zero, Option.some.injEq] at hj
      subst hj
      refine ⟨by simpa using h1, by simpa using Nat.eq_of_beq_eq_true h2, ?_⟩
      cases t with
      | bool =>
        refine .inl ⟨rfl, ?_⟩
        simp only [isBool] at h3
        split at h3
        · assumption
        · cases h3
      | str =>
        refine .inr (.inl ⟨rfl, ?_⟩)
        simp only [isStr] at h3
        split at h3
        · assumption
        · cases h3
      | int k =>
        refine .inr (.inr ⟨k, rfl, ?_⟩)
        simp only [isInt] at h3
        split at h3
        · rename_i j hj
          rw [hj, of_decide_eq_true h3]
        · cases h3
      | slice r => cases h3
      | pair a b => cases h3
    | succ j =>
      have := h6 j g (by simpa using hj)
      rw [show i + (j + 1) = i + 1 + j by omega]
      simpa using this

theorem tdB_ok {P : Program} {t : Nat} {td : TD} (h : tdB P t td = true) : TDok P t td := by
  unfold tdB at h
  split at h
  case h_2 => cases h
  rename_i ti d hi hu
  simp only [Bool.and_eq_true] at h
  obtain ⟨hz, hty, hp, ha, hf, he⟩ := h
  split at hz
  case h_2 => cases hz
  rename_i z hzz
  simp only [Bool.and_eq_true] at hz
  obtain ⟨h1, h2, h3, h4, h5, hns⟩ := hz
  refine ⟨⟨ti, z, hi, Nat.eq_of_beq_eq_true h1, Nat.eq_of_beq_eq_true h2, hzz, Nat.eq_of_beq_eq_true h3, fun F k => zeroB_rel h4, fun hd w ok => ?_⟩, fun hg => ?_, fun hg => ?_, fun r hr => ?_, fun k hr => ?_, fun hr => ?_, fun hr => ?_, fun f hm => ?_, Nat.le_of_ble_eq_true hp, fun hne => ?_, fun hne => ?_⟩
  · rw [hd] at h5
    simp only [cond_true] at h5
    split at h5
    · rename_i hr
      obtain ⟨u, h6, h7⟩ := rdZ_rd (w := w) (ok := ok) hr
      rw [List.append_nil] at h6
      rw [h6]
      exact h7
    · cases h5
  · cases d with
    | struct fs =>
      simp only [Bool.and_eq_true, decide_eq_true_eq] at ha
      exact ⟨fs, hu, ha.2⟩
    | array n e => cases ha
    | _ => rw [hg] at ha; cases ha
  · cases d with
    | struct fs => rw [hg] at ha; cases ha
    | array n e => cases ha
    | _ =>
      simp only [Bool.and_eq_true] at ha
      exact ⟨Nat.eq_of_beq_eq_true ha.2.1, by simpa using ha.2.2, _, hu, fun _ h => by (first | cases h | exact TypeDesc.noConfusion h), fun _ _ h => by (first | cases h | exact TypeDesc.noConfusion h)⟩
  · rw [hr] at hty
    cases d with
    | slice e => rw [hu, Nat.eq_of_beq_eq_true hty]
    | _ => cases hty
  · rw [hr] at hty
    cases d with
    | int j => rw [hu, of_decide_eq_true hty]
    | _ => cases hty
  · rw [hr] at hty
    cases d with
    | string => exact hu
    | _ => cases hty
  · rw [hr] at hty
    cases d with
    | bool => exact hu
    | _ => cases hty
  · have := List.all_eq_true.1 hf f hm
    unfold fldB at this
    split at this
    · rename_i ti' h6
      exact ⟨ti', h6, Nat.le_of_ble_eq_true this⟩
    · cases this
  · unfold nsB at hns
    split at hns
    · rename_i h; exact absurd h hne
    · rename_i n ns hn
      simp only [Bool.and_eq_true] at hns
      obtain ⟨hd, hl⟩ := hns
      have hl := Nat.eq_of_beq_eq_true hl
      rw [hd] at h5
      simp only [cond_true] at h5
      split at h5
      · rename_i hr
        refine ⟨ti, z, hi, hzz, fun w ok base => ?_⟩
        obtain ⟨u, h6, h7⟩ := rdZ_own (w := w) (ok := ok) (base := base) (ns := td.ns) hr (by rw [hn]; exact Nat.le_of_eq hl)
        rw [List.append_nil] at h6
        rw [List.drop_of_length_le (by rw [hn]; exact Nat.le_of_eq hl.symm)] at h7
        rw [h6]
        exact h7
      · cases h5
  · cases hb : td.eqs.isEmpty with
    | true => exact absurd (by simpa using hb) hne
    | false =>
      rw [hb] at he
      cases d with
      | struct fs =>
        simp only [cond_false, Bool.and_eq_true, Bool.not_eq_true'] at he
        obtain ⟨h6, h7⟩ := eqsB_ok he.2.2
        exact ⟨fs, hu, he.1, he.2.1, by simpa using h6, fun j f hj => by simpa using h7 j f hj⟩
      | _ => cases he

/-- A table as a list. -/
def tabOf : List (Nat × TD) → Nat → Option TD
  | [], _ => none
  | (i, td) :: l, t => bif Nat.beq i t then some td else tabOf l t
theorem tab_ok {P : Program} : ∀ {l : List (Nat × TD)}, (l.all fun p => tdB P p.1 p.2) = true → TTok P (tabOf l)
  | [], _, t, td, h => by cases h
  | (i, d) :: l, hl, t, td, h => by
    simp only [List.all_cons, Bool.and_eq_true] at hl
    simp only [tabOf] at h
    cases hb : Nat.beq i t with
    | true =>
      rw [hb] at h
      have := Nat.eq_of_beq_eq_true hb
      subst this
      simp only [cond_true, Option.some.injEq] at h
      subst h
      exact tdB_ok hl.1
    | false =>
      rw [hb] at h
      exact tab_ok (by simpa using hl.2) t td h

end Go.MC

/- Loops over a list: one law (general). -/
set_option linter.unusedVariables false
set_option linter.unusedSimpArgs false
namespace Go.MC
open Go.RowKit

/-- Over a list, from the front: go on with a new state, or stop. -/
def walkL {α σ β : Type} (f : Nat → σ → α → Sum σ β) : Nat → List α → σ → Sum σ β
  | _, [], st => .inl st
  | i, x :: xs, st => match f i st x with
    | .inl st' => walkL f (i + 1) xs st'
    | .inr b => .inr b

theorem walk_from {α σ β R : Type} (F : Nat → Nat → σ → R) (l : List α) (f : Nat → σ → α → Sum σ β) (K : Sum σ β → R)
    (hround : ∀ (n i : Nat) (st : σ) (x : α), l[i]? = some x → F (n + 1) i st = match f i st x with
      | .inl st' => F n (i + 1) st'
      | .inr b => K (.inr b))
    (hend : ∀ (n : Nat) (st : σ), F (n + 1) l.length st = K (.inl st)) :
    ∀ (m i n : Nat) (st : σ), l.length - i = m → i ≤ l.length → m < n → F n i st = K (walkL f i (l.drop i) st) := by
  intro m
  induction m with
  | zero =>
    intro i n st h1 h2 h3
    obtain ⟨n, rfl⟩ : ∃ j, n = j + 1 := ⟨n - 1, by omega⟩
    have hi : i = l.length := by omega
    subst hi
    rw [hend, List.drop_length]
    rfl
  | succ m ih =>
    intro i n st h1 h2 h3
    obtain ⟨n, rfl⟩ : ∃ j, n = j + 1 := ⟨n - 1, by omega⟩
    have hlt : i < l.length := by omega
    rw [hround n i st l[i] (List.getElem?_eq_getElem hlt), List.drop_eq_getElem_cons hlt]
    simp only [walkL]
    cases f i st l[i] with
    | inl st' => exact ih (i + 1) n st' (by omega) (by omega) (by omega)
    | inr b => rfl

theorem walk_ind {α σ β R : Type} (F : Nat → Nat → σ → R) (l : List α) (f : Nat → σ → α → Sum σ β) (K : Sum σ β → R)
    (hround : ∀ (n i : Nat) (st : σ) (x : α), l[i]? = some x → F (n + 1) i st = match f i st x with
      | .inl st' => F n (i + 1) st'
      | .inr b => K (.inr b))
    (hend : ∀ (n : Nat) (st : σ), F (n + 1) l.length st = K (.inl st)) (n : Nat) (hn : l.length < n) (st : σ) : F n 0 st = K (walkL f 0 l st) := by
  have := walk_from F l f K hround hend l.length 0 n st (by omega) (by omega) hn
  rwa [List.drop_zero] at this

theorem wrap_succ {i : Nat} (h : i ≤ lim) : IntKind.i64.wrap ((i : Int) + 1) = ((i + 1 : Nat) : Int) := by
  have hl : lim = 140737488355328 := rfl
  rw [IntKind.wrap_i64]
  omega

end Go.MC

/- Names for regions, and for what comes behind a call in one (general). -/
set_option linter.unusedVariables false
set_option linter.unusedSimpArgs false
namespace Go.MC
open Go.RowKit

/-- Is region t in this text, outside of loops? -/
def hasRg : Code → Nat → Bool
  | .region id _ _, t => Nat.beq id t
  | .seq a b, t => hasRg a t || hasRg b t
  | .cond _ a b, t => hasRg a t || hasRg b t
  | .block _ c, t => hasRg c t
  | _, _ => false
/-- Its operations. -/
def rgIn : Code → Nat → List Oper
  | .region _ ops _, _ => ops.toList
  | .seq a b, t => bif hasRg a t then rgIn a t else rgIn b t
  | .cond _ a b, t => bif hasRg a t then rgIn a t else rgIn b t
  | .block _ c, t => rgIn c t
  | _, _ => []
/-- What comes behind it. -/
noncomputable def contRg (E : Env) {ρ : Type} : Code → Nat → Nat → (X → St → Option ρ) → St → Option ρ
  | .region _ _ _, _, _, k => k .nrm
  | .seq a b, cur, t, k => bif hasRg a t then contRg E a cur t (kSeq (code E b cur) k) else contRg E b cur t k
  | .cond _ a b, cur, t, k => bif hasRg a t then contRg E a cur t k else contRg E b cur t k
  | .block id c, _, t, k => contRg E c id t (kBlk id k)
  | _, _, _, k => k .nrm
/-- What comes behind operation j of region t, entered at frame fr. -/
noncomputable def afterCall (E : Env) {ρ : Type} (body : Code) (cur t j : Nat) (fr : List (Nat × AV)) (k : X → St → Option ρ) (v : AV) (H : List (Nat × Ob)) : Option ρ :=
  runOps E (rgIn body t) ((rgIn body t).drop (j + 1)) ⟨putF (match (rgIn body t)[j]? with
    | some o => o.dst
    | none => none) v fr, H⟩ (contRg E body cur t k)

/-- A loop's note. -/
def annAt (f : FI) (b : Nat) : Ann := match f.an b with
  | some a => a
  | none => ⟨⟨[], [], []⟩, [], ⟨[], [], []⟩⟩
def envOf (TT : Nat → Option TD) (Φ : Nat → Option Summ) (inl : (ρ : Type) → Nat → List AV → List (Nat × Ob) → (AV → List (Nat × Ob) → Option ρ) → Option ρ) (N : Nat) (f : FI) (ent : List Nat) : Env := { TT := TT, Φ := Φ, inl := inl, an := f.an, ent := ent, N := N }

end Go.MC

/- Functions of data as summaries; loops as iterations (general). -/
set_option linter.unusedVariables false
set_option linter.unusedSimpArgs false
namespace Go.MC
open Go.RowKit

/-- A loop: so many rounds at most. -/
def lp {F : Type} (z : F) (rd : F → F) : Nat → F
  | 0 => z
  | n + 1 => rd (lp z rd n)
theorem lp_all {F : Type} {z : F} {rd : F → F} {g : Nat → F} (h0 : g 0 = z) (h : ∀ n, g (n + 1) = rd (g n)) : ∀ n, g n = lp z rd n
  | 0 => h0
  | n + 1 => (h n).trans (congrArg rd (lp_all h0 h n))
def iS {α : Type} (o : Option α) : Bool := o.isSome
def gS {α : Type} (o : Option α) (d : α) : α := o.getD d
/-- On with what was told, if anything was. -/
def ob {α ρ : Type} (o : Option α) (d : α) (B : α → Option ρ) : Option ρ := bif iS o then B (gS o d) else none
theorem ob_some {α ρ : Type} (a d : α) (B : α → Option ρ) : ob (some a) d B = B a := rfl
theorem ob_none {α ρ : Type} (d : α) (B : α → Option ρ) : ob none d B = none := rfl

def Fn : List Ty → Type → Type
  | [], ρ => ρ
  | t :: ts, ρ => t.den → Fn ts ρ
def appD {ρ : Type} : (ts : List Ty) → Fn ts ρ → List Dv → Option ρ
  | [], f, [] => some f
  | [], _, _ :: _ => none
  | _ :: _, _, [] => none
  | t :: ts, f, d :: ds => match castT t d.1 d.2 with
    | some x => appD ts (f x) ds
    | none => none
def FnEq {ρ : Type} : (ts : List Ty) → Fn ts ρ → (List Dv → ρ) → Prop
  | [], f, g => g [] = f
  | t :: ts, f, g => ∀ x : t.den, FnEq ts (f x) fun ds => g (⟨t, x⟩ :: ds)
theorem FnEq.app {ρ : Type} : ∀ {ts : List Ty} {f : Fn ts ρ} {g : List Dv → ρ}, FnEq ts f g → ∀ {ds : List Dv} {o : ρ}, appD ts f ds = some o → g ds = o
  | [], f, g, h, [], o, ho => by
    have ho : some f = some o := ho
    cases ho
    exact h
  | [], f, g, h, _ :: _, o, ho => by cases ho
  | _ :: _, f, g, h, [], o, ho => by cases ho
  | t :: ts, f, g, h, ⟨t', x⟩ :: ds, o, ho => by
    simp only [appD] at ho
    split at ho
    · rename_i y hy
      obtain ⟨he, rfl⟩ := castT_eq hy
      subst he
      exact FnEq.app (h x) ho
    · cases ho

@[reducible] def tupD : List Ty → Type
  | [] => Unit
  | [t] => t.den
  | t :: u :: ts => t.den × tupD (u :: ts)
def toDs : (ts : List Ty) → tupD ts → List Dv
  | [], _ => []
  | [t], x => [⟨t, x⟩]
  | t :: u :: ts, x => ⟨t, x.1⟩ :: toDs (u :: ts) x.2
def ofDs : (ts : List Ty) → List Dv → Option (tupD ts)
  | [], [] => some ()
  | [], _ :: _ => none
  | _ :: _, [] => none
  | [t], d :: ds => match ds with
    | [] => castT t d.1 d.2
    | _ :: _ => none
  | t :: u :: ts, d :: ds => match castT t d.1 d.2 with
    | some x => match ofDs (u :: ts) ds with
      | some y => some (x, y)
      | none => none
    | none => none
theorem ofDs_to : ∀ {ts : List Ty} {ds : List Dv} {r : tupD ts}, ofDs ts ds = some r → ds = toDs ts r
  | [], [], _, _ => rfl
  | [], _ :: _, _, h => by cases h
  | [t], [], _, h => by cases h
  | [t], [⟨t', x⟩], r, h => by
    obtain ⟨he, rfl⟩ := castT_eq (show castT t t' x = some r from h)
    subst he
    rfl
  | [t], _ :: _ :: _, _, h => by cases h
  | t :: u :: ts, [], _, h => by cases h
  | t :: u :: ts, ⟨t', x⟩ :: ds, r, h => by
    simp only [ofDs] at h
    split at h
    · rename_i y hy
      split at h
      · rename_i z hz
        simp only [Option.some.injEq] at h
        subst h
        obtain ⟨he, rfl⟩ := castT_eq hy
        subst he
        rw [ofDs_to hz]
        rfl
      · cases h
    · cases h
def dfD : (ts : List Ty) → tupD ts
  | [] => ()
  | [t] => t.dflt
  | t :: u :: ts => (t.dflt, dfD (u :: ts))

def SP.ty : SP → Ty
  | .dd t => t
  | .ow _ r _ => .slice r
  | .mv _ r _ => .slice r
def psTys : List PS → List Ty
  | [] => []
  | .d t _ :: ps => t :: psTys ps
  | .bx t :: ps => t :: psTys ps
  | .ow _ r _ :: ps => .slice r :: psTys ps
  | .mv _ r _ :: ps => .slice r :: psTys ps
  | .sp l :: ps => l.map SP.ty ++ psTys ps
  | .cl _ ts :: ps => ts ++ psTys ps

/-- The signature alone. -/
def sigOf (ps : List PS) (fz : Bool) (rs : List RS) : Summ := ⟨ps, fz, fun _ => true, fun ds => ds, rs⟩
/-- A function of data as a summary: called where it tells something. -/
def summOf (ps : List PS) (fz : Bool) (rs : List RS) (ts : List Ty) (f : Fn (psTys ps) (Option (tupD ts))) : Summ :=
  ⟨ps, fz, fun ds => match appD (psTys ps) f ds with
    | some o => iS o
    | none => false, fun ds => match appD (psTys ps) f ds with
    | some o => toDs ts (gS o (dfD ts))
    | none => [], rs⟩

def tabS : List (Nat × Summ) → Nat → Option Summ
  | [], _ => none
  | p :: l, i => bif Nat.beq p.1 i then some p.2 else tabS l i
def AllC (P : Program) : List (Nat × Summ) → Prop
  | [] => True
  | p :: l => Contract P (p.1 % 100000) p.2 ∧ AllC P l
theorem allc {P : Program} {k g : Nat} {s : Summ} {l : List (Nat × Summ)} (h : k % 100000 = g) (hc : Contract P g s) (hl : AllC P l) : AllC P ((k, s) :: l) := ⟨by rw [h]; exact hc, hl⟩
theorem AllC.at {P : Program} : ∀ {l : List (Nat × Summ)}, AllC P l → ∀ {i : Nat} {s : Summ}, tabS l i = some s → Contract P (i % 100000) s
  | [], _, _, _, h => by cases h
  | p :: l, ⟨h1, h2⟩, i, s, h => by
    simp only [tabS] at h
    cases hb : Nat.beq p.1 i with
    | true =>
      rw [hb] at h
      simp only [cond_true, Option.some.injEq] at h
      subst h
      rw [← Nat.eq_of_beq_eq_true hb]
      exact h1
    | false => rw [hb] at h; exact h2.at h
theorem keyOf_mod {g : Nat} (hg : g < 100000) : ∀ {vs : List AV}, keyOf g vs % 100000 = g
  | [] => Nat.mod_eq_of_lt hg
  | v :: vs => by
    unfold keyOf
    split
    · omega
    · exact keyOf_mod hg
theorem callOK_list {P : Program} {l : List (Nat × Summ)} (h : AllC P l) : CallOK P (tabS l) := by
  refine callOK_of fun g vs s hs => ?_
  unfold phiK at hs
  cases hb : Nat.blt g 100000 with
  | false => rw [hb] at hs; cases hs
  | true =>
    rw [hb] at hs
    have hg : g < 100000 := Nat.le_of_ble_eq_true hb
    have := h.at hs
    rwa [keyOf_mod hg] at this

abbrev Inl := (ρ : Type) → Nat → List AV → List (Nat × Ob) → (AV → List (Nat × Ob) → Option ρ) → Option ρ
def inl0 : Inl := fun _ _ _ _ _ => none
theorem inl0_ok (P : Program) : InlOK P inl0 := fun h => by cases h

theorem con_of {P : Program} {TT : Nat → Option TD} {Φ : Nat → Option Summ} {inl : Inl} {N : Nat} (hTT : TTok P TT) (hm : P.follows .mixedOrders = true) (hΦ : CallOK P Φ) (hinl : InlOK P inl)
    {g : Nat} {fi : FI} (hf : FnOK P g fi) {ps : List PS} {fz : Bool} {rs : List RS} {ts : List Ty} {f : Fn (psTys ps) (Option (tupD ts))} (hl : ps.length ≤ fi.ntmps)
    (h : FnEq (psTys ps) f (runST (ofDs ts) TT Φ inl N fi (sigOf ps fz rs))) : Contract P g (summOf ps fz rs ts f) := by
  refine contract_of (N := N) hTT hΦ hinl hm hf hl fun ds hd hp => ?_
  have hp' : (match appD (psTys ps) f ds with
    | some o => iS o
    | none => false) = true := hp
  have hout : (summOf ps fz rs ts f).out ds = (match appD (psTys ps) f ds with
    | some o => toDs ts (gS o (dfD ts))
    | none => []) := rfl
  rw [hout]
  cases ha : appD (psTys ps) f ds with
  | none => rw [ha] at hp'; cases hp'
  | some o =>
    rw [ha] at hp'
    cases o with
    | none => cases hp'
    | some r => exact ⟨_, ofDs ts, r, h.app ha, fun ds' hds => ofDs_to hds⟩

end Go.MC

/- A law's arguments as data; what is told of a law by its contract (general). -/
set_option linter.unusedVariables false
set_option linter.unusedSimpArgs false
namespace Go.MC
open Go.RowKit Go.ChangeShapes Go.WideShapes

def fldsOK (P : Program) (rc : Ty → TypeId → Bool) : Ty → List Field → Nat → Bool
  | _, [], _ => false
  | t, [f], off => Nat.beq f.offset off && rc t f.type
  | .pair a b, f :: g :: fs, off => Nat.beq f.offset off && (rc a f.type && fldsOK P rc b (g :: fs) (off + a.sz))
  | _, _ :: _ :: _, _ => false
/-- A type reads as data of this kind. -/
def tyOK (P : Program) : Nat → Ty → TypeId → Bool
  | 0, _, _ => false
  | n + 1, t, ty => Nat.beq (P.cellsOf ty) t.sz && match t, P.underlying ty with
    | .bool, some .bool => true
    | .int k, some (.int j) => decide (j = k)
    | .str, some .string => true
    | .slice r, some (.slice e) => Nat.ble 1 (P.bytesOf e) && tyOK P n r e
    | .pair a b, some (.struct fs) => fldsOK P (tyOK P n) (.pair a b) fs.toList 0
    | _, _ => false

theorem tyOK_sz {P : Program} {n : Nat} {t : Ty} {ty : TypeId} (h : tyOK P n t ty = true) : P.cellsOf ty = t.sz := by
  cases n with
  | zero => cases h
  | succ n =>
    simp only [tyOK, Bool.and_eq_true] at h
    exact Nat.eq_of_beq_eq_true h.1

theorem choose_list {α : Type} {Q : Nat → α → Prop} : ∀ (n : Nat), (∀ i, i < n → ∃ y, Q i y) → ∃ l : List α, l.length = n ∧ ∀ i y, l[i]? = some y → Q i y
  | 0, _ => ⟨[], rfl, fun i y h => by simp at h⟩
  | n + 1, h => by
    obtain ⟨l, h1, h2⟩ := choose_list n fun i hi => h i (by omega)
    obtain ⟨y, hy⟩ := h n (by omega)
    refine ⟨l ++ [y], by simp [h1], fun i z hz => ?_⟩
    by_cases hi : i < n
    · rw [List.getElem?_append_left (by omega)] at hz
      exact h2 i z hz
    · rw [List.getElem?_append_right (by omega)] at hz
      have : i = n := by
        have := (List.getElem?_eq_some_iff.1 hz).1
        simp at this
        omega
      subst this
      simp [h1] at hz
      subst hz
      exact hy

theorem flds_rd {P : Program} {rc : Ty → TypeId → Bool} {w : World} {ok : Nat → Prop} {cs : List Value} (hsz : ∀ t u, rc t u = true → P.cellsOf u = t.sz) :
    ∀ {fs : List Field} {t : Ty} {off : Nat}, fldsOK P rc t fs off = true → cs.length = off + t.sz →
      (∀ f ∈ fs, ∀ t, rc t f.type = true → ∃ y, Rd w ok t y ((cs.drop f.offset).take (P.cellsOf f.type))) → ∃ y, Rd w ok t y (cs.drop off)
  | [], t, off, h, _, _ => by cases t <;> cases h
  | [f], t, off, h, hl, hf => by
    have h : (Nat.beq f.offset off && rc t f.type) = true := by cases t <;> exact h
    simp only [Bool.and_eq_true] at h
    obtain ⟨y, hy⟩ := hf f (by simp) t h.2
    rw [Nat.eq_of_beq_eq_true h.1, hsz _ _ h.2, List.take_of_length_le (by simp; omega)] at hy
    exact ⟨y, hy⟩
  | f :: g :: fs, t, off, h, hl, hf => by
    cases t with
    | pair a b =>
      simp only [fldsOK, Bool.and_eq_true] at h
      obtain ⟨h1, h2, h3⟩ := h
      obtain ⟨x, hx⟩ := hf f (by simp) a h2
      simp only [Ty.sz] at hl
      obtain ⟨y, hy⟩ := flds_rd hsz h3 (by omega) fun f' hm => hf f' (by simp only [List.mem_cons] at hm ⊢; exact .inr hm)
      rw [Nat.eq_of_beq_eq_true h1, hsz _ _ h2] at hx
      refine ⟨(x, y), _, _, ?_, hx, hy⟩
      rw [← List.drop_drop, List.take_append_drop]
    | _ => cases h

theorem trod_rd {P : Program} {H : Type} {enc : TypeId × Value → H} {W : World} {spare : Nat → Bool} {held : Bool} : ∀ (n : Nat) {t : Ty} {ty : TypeId} {fuel : Nat} {cs : List Value} {x : DataW H × List MemPlace}, tyOK P n t ty = true →
    DataW.trod enc P W 0 spare held fuel ty cs = some x → (∀ m ∈ x.1.weights P ty, m ≤ reachBytes) → ∃ y, Rd W (fun b => b < W.heap.size) t y cs
  | 0, _, _, _, _, _, h, _, _ => by cases h
  | n + 1, t, ty, fuel, cs, x, h, hx, hw => by
    have hlim : reachBytes ≤ lim := by decide
    have hsz := tyOK_sz h
    simp only [tyOK, Bool.and_eq_true] at h
    replace h := h.2
    split at h
    · rename_i hu
      obtain ⟨b, rfl, rfl⟩ := DataW.trod_bool hu hx
      exact ⟨b, rfl⟩
    · rename_i k j hu
      have := of_decide_eq_true h
      subst this
      obtain ⟨m, rfl, rfl, hwf⟩ := DataW.trod_int hu hx
      refine ⟨m, rfl, ?_⟩
      simpa [Lit.wf, IntKind.has] using hwf
    · rename_i hu
      obtain ⟨s, rfl, rfl, _⟩ := DataW.trod_string hu hx
      refine ⟨s.data.toList, rfl, ?_⟩
      exact Nat.le_trans (hw _ (by simp [DataW.weights])) hlim
    · rename_i r e hu
      simp only [Bool.and_eq_true] at h
      obtain ⟨hb, h⟩ := h
      have hesz := tyOK_sz h
      rcases DataW.trod_slice hu hx with ⟨rfl, _⟩ | ⟨a, len, cap, elems, rest, m, _, rfl, rfl, hb0, hl, hm, hlen, hel, hsp, hns⟩
      · exact ⟨[], Rd.nil _ _ _⟩
      · simp only [DataW.weights, hu] at hw
        have hwl : (elems.length + rest.length) * P.bytesOf e ≤ reachBytes := hw _ (by simp)
        have hll : len ≤ lim := by
          have h1 := Nat.le_of_ble_eq_true hb
          have h2 : elems.length + rest.length ≤ (elems.length + rest.length) * P.bytesOf e := Nat.le_mul_of_pos_right _ h1
          omega
        obtain ⟨l, h1, h2⟩ := choose_list (Q := fun i y => ∃ cs, Rd W (fun b => b < W.heap.size) r y cs ∧ ∀ k v, cs[k]? = some v → W.cell? (a.add (i * r.sz + k)) = some v) len (fun i hi => by
          have h3 := hel i hi
          have hi' : i < elems.length := by omega
          rw [List.getElem?_eq_getElem hi', Option.bind_eq_some_iff] at h3
          obtain ⟨cs, h4, h5⟩ := h3
          obtain ⟨y, hy⟩ := trod_rd n h h5 (fun m hm => hw m (by
            refine List.mem_cons_of_mem _ (List.mem_append.2 (.inl ?_))
            have : ∀ {ds : List (DataW H)} {d : DataW H}, d ∈ ds → ∀ m ∈ d.weights P e, m ∈ DataW.weightsAll P e ds := by
              intro ds
              induction ds with
              | nil => intro d hd; simp at hd
              | cons d0 ds ih =>
                intro d hd m hm
                simp only [DataW.weightsAll, List.mem_append]
                rcases List.mem_cons.1 hd with rfl | hd
                · exact .inl hm
                · exact .inr (ih hd m hm)
            exact this (List.mem_map.2 ⟨elems[i], List.getElem_mem hi', rfl⟩) m hm))
          refine ⟨y, cs, hy, fun k v hk => ?_⟩
          unfold World.cells? at h4
          rw [if_pos (Nat.zero_le _)] at h4
          have hkl := (List.getElem?_eq_some_iff.1 hk).1
          have hcl : cs.length = P.cellsOf e := by rw [mapM_some_length h4]; simp
          have h6 := mapM_some_get h4 k k (by rw [List.getElem?_range (by omega)])
          rw [add_add, hesz] at h6
          rw [h6]; exact hk)
        refine ⟨l, ?_⟩
        simp only [Rd]
        refine ⟨some a, cap, by rw [h1], by rw [h1]; exact hl, by rw [h1]; exact hll, fun j y hj => ?_⟩
        obtain ⟨cs, h3, h4⟩ := h2 j y hj
        refine ⟨a, cs, rfl, ?_, h3, h4⟩
        have hpos : 0 < cs.length := by rw [h3.length]; exact r.sz_pos
        have h5 := h4 0 cs[0] (List.getElem?_eq_getElem hpos)
        have := World.block_lt_of_cell? W _ h5
        rwa [add_block] at this
    · rename_i a b fs hu
      obtain ⟨xs, m, rfl, rfl, hcl, hxl, hf⟩ := DataW.trod_struct hu hx
      simp only [DataW.weights, hu] at hw
      obtain ⟨y, hy⟩ := flds_rd (P := P) (w := W) (ok := fun b => b < W.heap.size) (cs := cs) (fun t u => tyOK_sz) h (by omega) (fun f hm t' ht' => by
        obtain ⟨i, hi⟩ := List.getElem?_of_mem hm
        have hi' : fs[i]? = some f := by simpa using hi
        have h1 := hf i f hi'
        have hlt : i < xs.length := by rw [hxl]; exact (Array.getElem?_eq_some_iff.1 hi').1
        rw [List.getElem?_eq_getElem hlt] at h1
        exact trod_rd n ht' h1 fun k hk => hw k (DataW.weights_mem_each (j := i) (t := f.type) (d := xs[i].1) (by simp [hi']) (by simp [hlt]) k hk))
      exact ⟨y, by simpa using hy⟩
    · cases h

/-- A law's call. -/
theorem law_calls {P : Program} {g : Nat} {s : Summ} (hc : Contract P g s) {W : World} {args : List Value} {ds : List Dv} (hf : FlatV s.ps args args) (ha : ArgsRd W (fun b => b < W.heap.size) (flatP s.ps) args ds [] []) (hp : s.pre ds = true) (ho : s.out ds = [⟨.bool, true⟩]) (hr : s.rs = [.d .bool false])  :
    Calls P g args.toArray W fun e W' => e = .returned (.bool true) ∧ Below W.heap.size W W' := by
  refine (hc.2 W _ args args ds [] [] hf ha List.nodup_nil (fun _ h => by simp at h) (fun _ h => h) hp).mono ?_
  rintro e w' ⟨vs, rest, own, bs', rfl, hsz, hfr, hos, htp, hou, _, _, _, hres, _⟩
  rw [hr, ho] at hres
  obtain ⟨v, vs', x, d, cs, rfl, hd, h0, hsh, hres⟩ := hres
  obtain ⟨rfl, _⟩ := hres
  simp only [List.cons.injEq, Sigma.mk.injEq, true_and] at hd
  obtain ⟨hx, _⟩ := hd
  have hx : true = x := eq_of_heq hx
  subst hx
  have h0 : cs = [.bool true] := h0
  subst h0
  have : v = .bool true := by simpa [shape] using hsh.symm
  subst this
  exact ⟨rfl, hos, htp, hou, hsz, fun b hb => hfr b hb (by simp)⟩

def isAgg : Ty → Bool
  | .pair _ _ => true
  | _ => false
theorem okWide_shape {P : Program} {W : World} {r : Reach} {base : Nat} {n : Nat} {t : Ty} {ty : TypeId} {v : Value} (h : tyOK P n t ty = true) (hv : Value.okWide P W r base ty v) : shape (isAgg t) v.cells.toList v := by
  cases n with
  | zero => cases h
  | succ n =>
    simp only [tyOK, Bool.and_eq_true] at h
    replace h := h.2
    split at h
    · rename_i hu; obtain ⟨b, rfl⟩ := okWide_bool hu hv; simp [shape, isAgg, Value.cells]
    · rename_i hu; obtain ⟨b, rfl⟩ := okWide_int hu hv; simp [shape, isAgg, Value.cells]
    · rename_i hu; obtain ⟨b, rfl⟩ := okWide_string hu hv; simp [shape, isAgg, Value.cells]
    · rename_i hu; obtain ⟨a, l, c, rfl⟩ := okWide_slice hu hv; simp [shape, isAgg, Value.cells]
    · rename_i hu
      unfold Value.okWide at hv
      rw [hu] at hv
      obtain ⟨cs, rfl, _⟩ := hv
      simp [shape, isAgg, Value.cells]
    · cases h

/-- One argument as data. -/
theorem arg_rd {P : Program} {H : Type} {enc : TypeId × Value → H} {W : World} {r : Reach} {base n : Nat} {t : Ty} {ty : TypeId} {v : Value} {d : DataW H} {p : List MemPlace} (ht : tyOK P n t ty = true) (hv : Value.okWide P W r base ty v)
    (hd : DataW.Trod enc P W 0 (fun _ => true) true ty v d p) {ts : List TypeId} {ds : List (DataW H)} (hsz : (DataW.weightsEach P ts ds).all (· ≤ reachBytes) = true) {j : Nat} (hj : ts[j]? = some ty) (hdj : ds[j]? = some d) :
    ∃ y cs, Rd W (fun b => b < W.heap.size) t y cs ∧ shape (isAgg t) cs v := by
  obtain ⟨fuel, hf⟩ := hd
  obtain ⟨y, hy⟩ := trod_rd n ht hf fun m hm => by
    have := List.all_eq_true.1 hsz m (DataW.weights_mem_each hj hdj m hm)
    simpa using this
  exact ⟨y, _, hy, okWide_shape ht hv⟩

theorem summ_out1 {t : Ty} {a fz : Bool} {rs : List RS} {ts : List Ty} {f : t.den → Option (tupD ts)} {x : t.den} {r : tupD ts} (h : f x = some r) : (summOf [.d t a] fz rs ts f).pre [⟨t, x⟩] = true ∧ (summOf [.d t a] fz rs ts f).out [⟨t, x⟩] = toDs ts r := by
  simp [summOf, psTys, appD, castT_self, h, iS, gS]
theorem summ_out2 {t u : Ty} {a b fz : Bool} {rs : List RS} {ts : List Ty} {f : t.den → u.den → Option (tupD ts)} {x : t.den} {y : u.den} {r : tupD ts} (h : f x y = some r) : (summOf [.d t a, .d u b] fz rs ts f).pre [⟨t, x⟩, ⟨u, y⟩] = true ∧ (summOf [.d t a, .d u b] fz rs ts f).out [⟨t, x⟩, ⟨u, y⟩] = toDs ts r := by
  simp [summOf, psTys, appD, castT_self, h, iS, gS]
theorem summ_out4 {t u v w : Ty} {a b c d fz : Bool} {rs : List RS} {ts : List Ty} {f : t.den → u.den → v.den → w.den → Option (tupD ts)} {x : t.den} {y : u.den} {z : v.den} {q : w.den} {r : tupD ts} (h : f x y z q = some r) :
    (summOf [.d t a, .d u b, .d v c, .d w d] fz rs ts f).pre [⟨t, x⟩, ⟨u, y⟩, ⟨v, z⟩, ⟨w, q⟩] = true ∧ (summOf [.d t a, .d u b, .d v c, .d w d] fz rs ts f).out [⟨t, x⟩, ⟨u, y⟩, ⟨v, z⟩, ⟨w, q⟩] = toDs ts r := by
  simp [summOf, psTys, appD, castT_self, h, iS, gS]

end Go.MC

/- sort.Strings and slices.Compact at an own row of texts, as entered functions (general). -/
set_option linter.unusedVariables false
set_option linter.unusedSimpArgs false
namespace Go.MC
open Go.RowKit Go.Sort Go.Proofs

/-- An own row's cells turn, its slice stays. -/
theorem turn_step {F : Fx} {k : K} (hk : HeapOK F k) {id e : Nat} {r : Ty} {xs ys : List r.den} {ws : List Value} {w' : World} (h : k.h id = some (.arr e r xs))
    (hg : k.w.grownBy w' (ownB (k.ν id))) (hown : OwnsR w' (F.bs id) e r.sz (k.ν id) ys.length ws) (hr : RdRows k.w (k.ok F) r ys ws) (hl : ys.length = xs.length) (hlim : ys.length ≤ lim) :
    ∃ k', k'.w = w' ∧ k'.h = (k.put [(id, .arr e r ys)]).h ∧ HeapOK F k' ∧ Le F k k' := by
  let k' : K := ⟨w', (k.put [(id, .arr e r ys)]).h, k.μ, k.ν, k.nb⟩
  have hh : ∀ i, k'.h i = if i = id then some (.arr e r ys) else k.h i := by
    intro i
    show (lkH [(id, Ob.arr e r ys)] i).or (k.h i) = _
    rw [lkH_one]
    split <;> simp
  have hidown : ∀ b, k'.own id b → ownB (k.ν id) = some b := by
    intro b hb
    unfold K.own at hb
    rw [hh, if_pos rfl] at hb
    exact hb
  have main := reown hk (k' := k') (fun x => x = id) hg.size (fun b hb hn => hg.block b hb fun hv => hn id rfl (own_block h hv.symm)) hg.os hg.tape hg.output (fun x hx => ⟨by rw [hh, if_neg hx], rfl, rfl, rfl⟩) (fun x hx => ?_) (fun x b hx hb => ?_) (fun x y b hx hy _ _ => hx.trans hy.symm) (fun hle x o hx ho => ?_)
  · exact ⟨k', rfl, rfl, main.1, main.2⟩
  · subst hx
    exact .inr ⟨e, r, xs, _, h, rfl, .inl ⟨ys, .no, by rw [hh, if_pos rfl], hl⟩⟩
  · subst hx
    exact .inl ⟨x, rfl, own_block h (hidown b hb)⟩
  · subst hx
    rw [hh, if_pos rfl] at ho
    cases ho
    exact ⟨ws, hown, hle.rdRows hr, hlim⟩

def srt (xs : List (List UInt8)) : List (List UInt8) := xs.mergeSort fun x y => decide (x ≤ y)
def cmpct (xs : List (List UInt8)) : List (List UInt8) := Lib.compact xs

theorem srt_length (xs : List (List UInt8)) : (srt xs).length = xs.length := List.length_mergeSort ..
theorem srt_mem {xs : List (List UInt8)} {x : List UInt8} : x ∈ srt xs ↔ x ∈ xs := List.mem_mergeSort
theorem cmpct_mem {xs : List (List UInt8)} {x : List UInt8} (h : x ∈ cmpct xs) : x ∈ xs := by
  unfold cmpct Lib.compact Lib.compactUpTo at h
  obtain ⟨j, hj, rfl⟩ := List.mem_map.1 h
  have hj := List.mem_range.1 (List.mem_filter.1 hj).1
  simp [hj]
theorem cmpct_length (xs : List (List UInt8)) : (cmpct xs).length ≤ xs.length := by
  unfold cmpct Lib.compact Lib.compactUpTo
  rw [List.length_map]
  refine Nat.le_trans (List.length_filter_le _ _) ?_
  simp

theorem rdRows_str {w : World} {ok : Nat → Prop} : ∀ {xs : List (List UInt8)} {us : List Value}, RdRows w ok .str xs us ↔ us = xs.map encStr ∧ ∀ x ∈ xs, x.length ≤ lim
  | [], us => by simp [RdRows]
  | x :: xs, us => by
    simp only [RdRows]
    constructor
    · rintro ⟨v1, v2, rfl, ⟨rfl, h1⟩, h2⟩
      obtain ⟨rfl, h3⟩ := rdRows_str.1 h2
      refine ⟨rfl, fun y hy => ?_⟩
      rcases List.mem_cons.1 hy with rfl | hy
      · exact h1
      · exact h3 y hy
    · rintro ⟨rfl, h⟩
      exact ⟨[.string ⟨⟨x⟩⟩], xs.map encStr, rfl, ⟨rfl, h x (by simp)⟩, rdRows_str.2 ⟨rfl, fun y hy => h y (by simp [hy])⟩⟩

inductive LibK where
  | sortS
  | compS
def lkL : List (Nat × LibK) → Nat → Option LibK
  | [], _ => none
  | (j, k) :: l, i => bif Nat.beq j i then some k else lkL l i
def inlL (L : List (Nat × LibK)) : Inl := fun _ g vs H kont => match lkL L g with
  | some .sortS => match vs with
    | [.w (.one (.arr id))] => match lkH H id with
      | some (.arr e .str xs) => kont (.tup []) ((id, .arr e .str (srt xs)) :: H)
      | _ => none
    | [.w (.one .emp)] => kont (.tup []) H
    | _ => none
  | some .compS => match vs with
    | [.w (.one (.arr id))] => match lkH H id with
      | some (.arr e .str xs) => match lkH H (800000 + H.length) with
        | none => bif isPar id then none else kont (.w (.one (.arr (800000 + H.length)))) ((800000 + H.length, .arr e .str (cmpct xs)) :: (id, .gone) :: H)
        | some _ => none
      | _ => none
    | [.w (.one .emp)] => kont (.w (.one .emp)) H
    | _ => none
  | none => none

def LibOK (P : Program) (g : Nat) : LibK → Prop
  | .sortS => (∀ (args : Array Value) (w : World), (callFunc g args).run P w = .ok (.enter g args) w) ∧
    (∀ (blk off cap : Nat) (ss : List (List UInt8)) (w : World), Holds encStr w blk off ss.toArray → blk < w.heap.size → ss.length < 4611686018427387904 →
      Calls P g #[.slice (some ⟨blk, off, none⟩) ss.length cap] w fun e w' => e = .returned (.tuple #[]) ∧ ∃ n os, w' = grow (putRow encStr (Sort.ahead w n) blk off (ss.mergeSort fun x y => decide (x ≤ y)).toArray) os) ∧
    (∀ (p : Option Addr) (cap : Nat) (w : World), Calls P g #[.slice p 0 cap] w fun e w' => e = .returned (.tuple #[]) ∧ w' = w)
  | .compS => (∀ (args : Array Value) (w : World), (callFunc g args).run P w = .ok (.enter g args) w) ∧
    (∀ (blk off cap : Nat) (zs : List (List UInt8)) (w : World), Holds encStr w blk off zs.toArray → zs.length ≤ 9223372036854775807 → zs.length ≤ cap →
      Calls P g #[.slice (some ⟨blk, off, none⟩) zs.length cap] w fun e w' => e = .returned (.slice (some ⟨blk, off, none⟩) (Lib.compact zs).length cap) ∧ ∃ q, w' = putRow encStr (Sort.ahead w q) blk off (Lib.compact zs ++ List.replicate (zs.length - (Lib.compact zs).length) []).toArray) ∧
    (∀ (a : Option Addr) (cap : Nat) (w : World), Calls P g #[.slice a 0 cap] w fun e w' => e = .returned (.slice a 0 cap) ∧ w' = w)

def LibsOK (P : Program) : List (Nat × LibK) → Prop
  | [] => True
  | p :: l => LibOK P p.1 p.2 ∧ LibsOK P l
theorem lkL_all {P : Program} : ∀ {L : List (Nat × LibK)}, LibsOK P L → ∀ g k, lkL L g = some k → LibOK P g k
  | [], _, g, k, h => by cases h
  | (j, kd) :: l, hL, g, k, h => by
    simp only [lkL] at h
    cases hb : Nat.beq j g with
    | true =>
      rw [hb] at h
      cases h
      rw [← Nat.eq_of_beq_eq_true hb]
      exact hL.1
    | false =>
      rw [hb] at h
      exact lkL_all hL.2 g k h

section mem
variable {P : Program}

theorem own_str {F : Fx} {k : K} (hk : HeapOK F k) {id e : Nat} {xs : List (List UInt8)} (h : k.h id = some (.arr e .str xs)) {v : Value} (hv : relC F k (.arr id) v) :
    v = k.ν id ∧ (∀ x ∈ xs, x.length ≤ lim) ∧ xs.length ≤ lim ∧ ((∃ a, v = .slice a 0 0 ∧ xs = []) ∨ ∃ g cap cur, v = .slice (some ⟨g, 0, none⟩) xs.length cap ∧ 0 < cap ∧ F.bs id ≤ g ∧ k.w.heap[g]? = some (.cells cur e (0, 0)) ∧ xs.length ≤ cap ∧ cap ≤ maxLen ∧ cur.size = cap * 1 ∧ cur.toList.take xs.length = xs.map encStr) := by
  obtain ⟨vs, ho, hr, hl⟩ := hk.obj id _ h
  obtain ⟨rfl, hx⟩ := rdRows_str.1 hr
  have hv' : v = k.ν id := by
    have := hv.2
    rw [h] at this
    exact this
  subst hv'
  refine ⟨rfl, hx, hl, ?_⟩
  rcases ho.2 with ⟨a, h1, h2⟩ | ⟨g, cap, cur, h1, h0, h2, h3, h4, h5, h6, h7⟩
  · exact .inl ⟨a, h1, List.eq_nil_of_length_eq_zero h2⟩
  · have h7 : cur.toList.take (xs.length * 1) = xs.map encStr := h7
    rw [Nat.mul_one] at h7
    exact .inr ⟨g, cap, cur, h1, h0, h2, h3, h4, h5, h6, h7⟩

theorem lim_lt : lim < 4611686018427387904 := by decide

theorem inlL_ok {L : List (Nat × LibK)} (hL : ∀ g k, lkL L g = some k → LibOK P g k) : InlOK P (inlL L) := by
  intro ρ g vs H kont r h F k args hk hS ha R hR
  unfold inlL at h
  cases hg : lkL L g with
  | none => rw [hg] at h; cases h
  | some kd =>
    rw [hg] at h
    have hok := hL g kd hg
    have emp : ∀ {v : Value} {vs : List Value}, vs = v :: [] → relC F k .emp v → vs.toArray = #[.slice none 0 0] := by
      rintro v vs rfl hv
      rw [show v = .slice none 0 0 from hv]
    cases kd with
    | sortS =>
      obtain ⟨he, h1, h0⟩ := hok
      refine ⟨fun w => he _ w, ?_⟩
      dsimp only at h
      split at h
      · rename_i id
        obtain ⟨v, vt, rfl, hv, has⟩ := ha
        simp only [CallOK.relAs] at has
        subst has
        split at h
        · rename_i e xs hid
          have hid' : k.h id = some (.arr e .str xs) := by rw [hS]; exact hid
          obtain ⟨hν, hx, hl, hcase⟩ := own_str hk hid' hv
          have fin : ∀ w', k.w.grownBy w' (ownB (k.ν id)) → OwnsR w' (F.bs id) e 1 (k.ν id) (srt xs).length ((srt xs).map encStr) → R (.returned (.tuple #[])) w' := by
            intro w' hg' hown
            obtain ⟨k', hk1, hk2, hk3, hk4⟩ := turn_step hk hid' hg' hown (rdRows_str.2 ⟨rfl, fun x hx' => hx x (srt_mem.1 hx')⟩) (srt_length xs) (by rw [srt_length]; exact hl)
            rw [← hk1]
            exact hR _ _ k' _ h (by rw [hk2]; funext i; show _ = lkH ([(id, Ob.arr e .str (srt xs))] ++ H) i; rw [lkH_append, ← hS]; rfl) hk3 hk4 ⟨[], rfl, rfl⟩
          rcases hcase with ⟨a0, rfl, rfl⟩ | ⟨gb, cap, cur, rfl, hcp, hb, hc, h2, h3, h4, h5⟩
          · refine (h0 a0 0 k.w).mono ?_
            rintro e' w' ⟨rfl, rfl⟩
            refine fin _ ⟨rfl, rfl, rfl, Nat.le_refl _, fun _ _ _ => rfl⟩ ?_
            rw [← hν]
            have : srt [] = [] := by simp [srt]
            rw [this]
            exact .mt a0
          · have hlt : gb < k.w.heap.size := (Array.getElem?_eq_some_iff.1 hc).1
            refine (h1 gb 0 cap xs k.w (holds_of_block hc h5) hlt (Nat.lt_of_le_of_lt hl lim_lt)).mono ?_
            rintro e' w' ⟨rfl, n, os, rfl⟩
            refine fin _ (by rw [← hν, ownB_pos hcp]; exact grownBy_sorted _) ?_
            rw [← hν]
            have := ownsRow_sorted (os := os) (n := n) (ts := srt xs) (srt_length xs) hb hc h2 h3 h4
            rw [srt_length]
            exact .of this
        · cases h
      · obtain ⟨v, vt, rfl, hv, has⟩ := ha
        simp only [CallOK.relAs] at has
        subst has
        rw [emp rfl hv]
        refine (h0 none 0 k.w).mono ?_
        rintro e' w' ⟨rfl, rfl⟩
        exact hR _ _ k _ h hS hk (Le.refl F k) ⟨[], rfl, rfl⟩
      · cases h
    | compS =>
      obtain ⟨he, h1, h0⟩ := hok
      refine ⟨fun w => he _ w, ?_⟩
      dsimp only at h
      split at h
      · rename_i id
        obtain ⟨v, vt, rfl, hv, has⟩ := ha
        simp only [CallOK.relAs] at has
        subst has
        split at h
        · rename_i e xs hid
          split at h
          · rename_i hnew
            cases hp : isPar id with
            | true => rw [hp] at h; cases h
            | false =>
            rw [hp] at h
            simp only [cond_false] at h
            have hid' : k.h id = some (.arr e .str xs) := by rw [hS]; exact hid
            have hnew' : k.h (800000 + H.length) = none := by rw [hS]; exact hnew
            obtain ⟨hν, hx, hl, hcase⟩ := own_str hk hid' hv
            have fin : ∀ w' v', (∀ b, ownB v' = some b → ownB v = some b) → k.w.grownBy w' (ownB v) → OwnsR w' 0 e 1 v' (cmpct xs).length ((cmpct xs).map encStr) → R (.returned v') w' := by
              intro w' v' hb hg' hown
              obtain ⟨k', hk1, hk2, hk3, hk4, hk5⟩ := append_step' hk (r := .str) (e := e) (d := .no) (zs := cmpct xs) (ids := [id]) hnew' (fun i hi => by simp at hi; subst hi; exact ⟨_, _, _, _, hid'⟩) (row := ownB v) (fun b hb => ⟨id, by simp, own_block hid' (by rw [← hν]; exact hb)⟩) hown (Nat.le_trans (cmpct_length xs) hl) hg' (fun b h => .inl (hb b h)) [] (fun _ h => by simp at h) List.nodup_nil (.inl ⟨rfl, rdRows_str.2 ⟨rfl, fun x hx' => hx x (cmpct_mem hx')⟩⟩)
              rw [← hk1]
              exact hR _ _ k' _ h (by rw [hk2]; funext i; show _ = lkH ([(800000 + H.length, Ob.arr e .str (cmpct xs)), (id, .gone)] ++ H) i; rw [lkH_append, ← hS]; rfl) hk3 hk4 hk5
            rcases hcase with ⟨a0, rfl, rfl⟩ | ⟨gb, cap, cur, rfl, hcp, hb, hc, h2, h3, h4, h5⟩
            · refine (h0 a0 0 k.w).mono ?_
              rintro e' w' ⟨rfl, rfl⟩
              exact fin _ _ (fun _ h => h) ⟨rfl, rfl, rfl, Nat.le_refl _, fun _ _ _ => rfl⟩ (.mt a0)
            · refine (h1 gb 0 cap xs k.w (holds_of_block hc h5) (Nat.le_trans hl (by decide)) h2).mono ?_
              rintro e' w' ⟨rfl, q, rfl⟩
              have hlen : (Lib.compact xs ++ List.replicate (xs.length - (Lib.compact xs).length) []).length = xs.length := by
                have := cmpct_length xs
                unfold cmpct at this
                rw [List.length_append, List.length_replicate]
                omega
              have ho := ownsRow_sorted (os := #[]) (n := q) (ts := Lib.compact xs ++ List.replicate (xs.length - (Lib.compact xs).length) []) hlen hb hc h2 h3 h4
              have hgr := grownBy_sorted (w := k.w) (g := gb) (n := q) (os := #[]) (Lib.compact xs ++ List.replicate (xs.length - (Lib.compact xs).length) []).toArray
              rw [grow_empty] at ho hgr
              refine fin _ _ (fun b h => by rw [ownB_pos hcp] at h ⊢; exact h) (by rw [ownB_pos hcp]; exact hgr) (.of ?_)
              have hcl := cmpct_length xs
              obtain ⟨_, ho⟩ := ho
              rcases ho with ⟨ho, _⟩ | ⟨g2, cap2, cur2, e1, e2, e3, e4, e5, e6, e7⟩
              · cases ho
              · cases e1
                refine ⟨by simp, .inr ⟨gb, cap, cur2, rfl, hb, e3, Nat.le_trans hcl h2, h3, e6, ?_⟩⟩
                have : (cur2.toList.take (xs.length * 1)).take (cmpct xs).length = (cmpct xs).map encStr := by
                  rw [e7, List.map_append]
                  exact List.take_left' (by simp [cmpct])
                rw [List.take_take, Nat.mul_one, Nat.min_eq_left hcl] at this
                rw [Nat.mul_one]
                exact this
          · cases h
        · cases h
      · obtain ⟨v, vt, rfl, hv, has⟩ := ha
        simp only [CallOK.relAs] at has
        subst has
        rw [emp rfl hv]
        refine (h0 none 0 k.w).mono ?_
        rintro e' w' ⟨rfl, rfl⟩
        exact hR _ _ k _ h hS hk (Le.refl F k) rfl
      · cases h

end mem
/-- The library's functions, and functions that are entered. -/
noncomputable def inlB (L : List (Nat × LibK)) (Fs : List (Nat × FI)) (TT : Nat → Option TD) (Φ : Nat → Option Summ) (N : Nat) : Inl := fun ρ g vs H kont => match lkL L g with
  | some _ => inlL L ρ g vs H kont
  | none => inlD TT Φ (lkFI Fs) N 1 ρ g vs H kont
 where
  lkFI : List (Nat × FI) → Nat → Option FI
    | [], _ => none
    | (j, f) :: l, i => bif Nat.beq j i then some f else lkFI l i
def FnsOK (P : Program) : List (Nat × FI) → Prop
  | [] => True
  | p :: l => FnOK P p.1 p.2 ∧ FnsOK P l
theorem lkFI_all {P : Program} : ∀ {l : List (Nat × FI)}, FnsOK P l → ∀ g f, inlB.lkFI l g = some f → FnOK P g f
  | [], _, g, f, h => by cases h
  | (j, fd) :: l, hl, g, f, h => by
    simp only [inlB.lkFI] at h
    cases hb : Nat.beq j g with
    | true =>
      rw [hb] at h
      cases h
      rw [← Nat.eq_of_beq_eq_true hb]
      exact hl.1
    | false =>
      rw [hb] at h
      exact lkFI_all hl.2 g f h
theorem inlB_ok {P : Program} {L : List (Nat × LibK)} (hL : LibsOK P L) {Fs : List (Nat × FI)} (hF : FnsOK P Fs) {TT : Nat → Option TD} {Φ : Nat → Option Summ} {N : Nat} (hTT : TTok P TT) (hΦ : CallOK P Φ) (hm : P.follows .mixedOrders = true) : InlOK P (inlB L Fs TT Φ N) := by
  intro ρ g vs H kont r h
  unfold inlB at h
  split at h
  · exact inlL_ok (lkL_all hL) h
  · exact inlD_sound hTT hΦ hm (lkFI_all hF) 1 h

end Go.MC

/- Short names of the data's types. -/
namespace Go.MC
abbrev Txt : Type := List UInt8
abbrev Use : Type := Txt × Int × Int
abbrev Want : Type := Int × Int × List Txt × List Use × List Txt × List Txt
abbrev Part : Type := Want × Bool
abbrev Foe : Type := Txt × Txt
abbrev Spot : Type := Txt × Int × Int × Int × List Txt
abbrev Book : Type := List Foe × List Spot × List Txt × List Part × Int
abbrev Do : Type := Want × Int × Int × Int × Bool
abbrev Rdr : Type := List Int × Int
abbrev tInt : Ty := .int .i64
abbrev tByte : Ty := .int .u8
abbrev tTxts : Ty := .slice .str
abbrev tUse : Ty := .pair .str (.pair tInt tInt)
abbrev tWant : Ty := .pair tInt (.pair tInt (.pair tTxts (.pair (.slice tUse) (.pair tTxts tTxts))))
abbrev tPart : Ty := .pair tWant .bool
abbrev tFoe : Ty := .pair .str .str
abbrev tSpot : Ty := .pair .str (.pair tInt (.pair tInt (.pair tInt tTxts)))
abbrev tBook : Ty := .pair (.slice tFoe) (.pair (.slice tSpot) (.pair tTxts (.pair (.slice tPart) tInt)))
abbrev tDo : Ty := .pair tWant (.pair tInt (.pair tInt (.pair tInt .bool)))
abbrev dUse : Use := ([], 0, 0)
abbrev dWant : Want := (0, 0, [], [], [], [])
abbrev dPart : Part := (dWant, false)
abbrev dFoe : Foe := ([], [])
abbrev dSpot : Spot := ([], 0, 0, 0, [])
end Go.MC

/- The table of types. -/
set_option linter.unusedVariables false
set_option maxRecDepth 100000
namespace Go.MC
open Go.Proofs
def tabL : List (Nat × TD) := [
  (1, ⟨1, 8, false, .pair .bool .bool, [.u], [], 0, false, [], []⟩),
  (2, ⟨1, 8, false, .int .i64, [.v (.int .i64) (0 : Int)], [], 0, true, [], []⟩),
  (3, ⟨1, 8, false, .int .i64, [.v (.int .i64) (0 : Int)], [], 0, true, [], []⟩),
  (4, ⟨1, 1, false, .bool, [.v .bool false], [], 0, true, [], []⟩),
  (5, ⟨1, 1, false, .int .u8, [.v (.int .u8) (0 : Int)], [], 0, true, [], []⟩),
  (6, ⟨1, 1, false, .int .u8, [.v (.int .u8) (0 : Int)], [], 0, true, [], []⟩),
  (7, ⟨4, 24, true, .pair (.int .i64) (.pair (.int .i64) (.pair (.bool) (.int .u8))), [.v (.int .i64) (0 : Int), .v (.int .i64) (0 : Int), .v .bool false, .v (.int .u8) (0 : Int)], [(2, 0), (3, 1), (4, 2), (6, 3)], 0, true, [], []⟩),
  (8, ⟨4, 24, true, .pair (.int .i64) (.pair (.int .i64) (.pair (.bool) (.int .u8))), [.v (.int .i64) (0 : Int), .v (.int .i64) (0 : Int), .v .bool false, .v (.int .u8) (0 : Int)], [(2, 0), (3, 1), (4, 2), (6, 3)], 0, true, [], []⟩),
  (9, ⟨1, 16, false, .str, [.v .str []], [], 0, true, [], []⟩),
  (10, ⟨1, 16, false, .str, [.v .str []], [], 0, true, [], []⟩),
  (11, ⟨1, 16, false, .str, [.v .str []], [], 0, true, [], []⟩),
  (12, ⟨1, 8, false, .int .u64, [.v (.int .u64) (0 : Int)], [], 0, true, [], []⟩),
  (13, ⟨2, 24, true, .pair (.str) (.int .u64), [.v .str [], .v (.int .u64) (0 : Int)], [(9, 0), (12, 1)], 0, true, [], []⟩),
  (14, ⟨2, 24, true, .pair (.str) (.int .u64), [.v .str [], .v (.int .u64) (0 : Int)], [(9, 0), (12, 1)], 0, true, [], []⟩),
  (15, ⟨1, 8, false, .pair .bool .bool, [.u], [], 0, false, [], []⟩),
  (16, ⟨1, 8, false, .pair .bool .bool, [.u], [], 0, false, [], []⟩),
  (17, ⟨1, 8, false, .pair .bool .bool, [.u], [], 0, false, [], []⟩),
  (18, ⟨1, 8, true, .pair .bool .bool, [.u], [(17, 0)], 0, false, [], []⟩),
  (19, ⟨1, 8, true, .pair .bool .bool, [.u], [(17, 0)], 0, false, [], []⟩),
  (20, ⟨1, 16, false, .pair .bool .bool, [.u], [], 0, false, [], []⟩),
  (21, ⟨1, 4, false, .int .i32, [.v (.int .i32) (0 : Int)], [], 0, true, [], []⟩),
  (22, ⟨1, 8, false, .pair .bool .bool, [.u], [], 0, false, [], []⟩),
  (23, ⟨1, 24, false, .slice (.str), [.emp], [], 9, true, [], []⟩),
  (24, ⟨1, 24, false, .slice (.pair (.str) (.pair (.int .i64) (.int .i64))), [.emp], [], 112, true, [], []⟩),
  (25, ⟨6, 112, true, .pair (.int .i64) (.pair (.int .i64) (.pair (.slice (.str)) (.pair (.slice (.pair (.str) (.pair (.int .i64) (.int .i64)))) (.pair (.slice (.str)) (.slice (.str)))))), [.v (.int .i64) (0 : Int), .v (.int .i64) (0 : Int), .emp, .emp, .emp, .emp], [(3, 0), (3, 1), (23, 2), (24, 3), (23, 4), (23, 5)], 0, true, [], [9, 112, 9, 9]⟩),
  (26, ⟨6, 112, true, .pair (.int .i64) (.pair (.int .i64) (.pair (.slice (.str)) (.pair (.slice (.pair (.str) (.pair (.int .i64) (.int .i64)))) (.pair (.slice (.str)) (.slice (.str)))))), [.v (.int .i64) (0 : Int), .v (.int .i64) (0 : Int), .emp, .emp, .emp, .emp], [(3, 0), (3, 1), (23, 2), (24, 3), (23, 4), (23, 5)], 0, true, [], [9, 112, 9, 9]⟩),
  (27, ⟨1, 8, false, .pair .bool .bool, [.u], [], 0, false, [], []⟩),
  (28, ⟨1, 8, false, .pair .bool .bool, [.u], [], 0, false, [], []⟩),
  (29, ⟨1, 24, false, .slice (.pair (.str) (.pair (.int .i64) (.int .i64))), [.emp], [], 75, true, [], []⟩),
  (30, ⟨6, 112, true, .pair (.int .i64) (.pair (.int .i64) (.pair (.slice (.str)) (.pair (.slice (.pair (.str) (.pair (.int .i64) (.int .i64)))) (.pair (.slice (.str)) (.slice (.str)))))), [.v (.int .i64) (0 : Int), .v (.int .i64) (0 : Int), .emp, .emp, .emp, .emp], [(3, 0), (3, 1), (23, 2), (29, 3), (23, 4), (23, 5)], 0, true, [], [9, 75, 9, 9]⟩),
  (31, ⟨6, 112, true, .pair (.int .i64) (.pair (.int .i64) (.pair (.slice (.str)) (.pair (.slice (.pair (.str) (.pair (.int .i64) (.int .i64)))) (.pair (.slice (.str)) (.slice (.str)))))), [.v (.int .i64) (0 : Int), .v (.int .i64) (0 : Int), .emp, .emp, .emp, .emp], [(3, 0), (3, 1), (23, 2), (29, 3), (23, 4), (23, 5)], 0, true, [], [9, 75, 9, 9]⟩),
  (32, ⟨1, 8, false, .pair .bool .bool, [.u], [], 0, false, [], []⟩),
  (33, ⟨1, 8, false, .pair .bool .bool, [.u], [], 0, false, [], []⟩),
  (34, ⟨1, 8, false, .pair .bool .bool, [.u], [], 0, false, [], []⟩),
  (35, ⟨1, 24, false, .slice (.pair (.str) (.str)), [.emp], [], 117, true, [], []⟩),
  (36, ⟨1, 24, false, .slice (.pair (.str) (.pair (.int .i64) (.pair (.int .i64) (.pair (.int .i64) (.slice (.str)))))), [.emp], [], 119, true, [], []⟩),
  (37, ⟨1, 24, false, .slice (.pair (.pair (.int .i64) (.pair (.int .i64) (.pair (.slice (.str)) (.pair (.slice (.pair (.str) (.pair (.int .i64) (.int .i64)))) (.pair (.slice (.str)) (.slice (.str))))))) (.bool)), [.emp], [], 122, true, [], []⟩),
  (38, ⟨5, 104, true, .pair (.slice (.pair (.str) (.str))) (.pair (.slice (.pair (.str) (.pair (.int .i64) (.pair (.int .i64) (.pair (.int .i64) (.slice (.str))))))) (.pair (.slice (.str)) (.pair (.slice (.pair (.pair (.int .i64) (.pair (.int .i64) (.pair (.slice (.str)) (.pair (.slice (.pair (.str) (.pair (.int .i64) (.int .i64)))) (.pair (.slice (.str)) (.slice (.str))))))) (.bool))) (.int .i64)))), [.emp, .emp, .emp, .emp, .v (.int .i64) (0 : Int)], [(35, 0), (36, 1), (23, 2), (37, 3), (3, 4)], 0, true, [], []⟩),
  (39, ⟨5, 104, true, .pair (.slice (.pair (.str) (.str))) (.pair (.slice (.pair (.str) (.pair (.int .i64) (.pair (.int .i64) (.pair (.int .i64) (.slice (.str))))))) (.pair (.slice (.str)) (.pair (.slice (.pair (.pair (.int .i64) (.pair (.int .i64) (.pair (.slice (.str)) (.pair (.slice (.pair (.str) (.pair (.int .i64) (.int .i64)))) (.pair (.slice (.str)) (.slice (.str))))))) (.bool))) (.int .i64)))), [.emp, .emp, .emp, .emp, .v (.int .i64) (0 : Int)], [(35, 0), (36, 1), (23, 2), (37, 3), (3, 4)], 0, true, [], []⟩),
  (40, ⟨1, 8, false, .pair .bool .bool, [.u], [], 0, false, [], []⟩),
  (41, ⟨1, 8, false, .pair .bool .bool, [.u], [], 0, false, [], []⟩),
  (42, ⟨1, 24, false, .slice (.pair (.str) (.str)), [.emp], [], 86, true, [], []⟩),
  (43, ⟨1, 24, false, .slice (.pair (.str) (.pair (.int .i64) (.pair (.int .i64) (.pair (.int .i64) (.slice (.str)))))), [.emp], [], 64, true, [], []⟩),
  (44, ⟨1, 24, false, .slice (.pair (.pair (.int .i64) (.pair (.int .i64) (.pair (.slice (.str)) (.pair (.slice (.pair (.str) (.pair (.int .i64) (.int .i64)))) (.pair (.slice (.str)) (.slice (.str))))))) (.bool)), [.emp], [], 89, true, [], []⟩),
  (45, ⟨5, 104, true, .pair (.slice (.pair (.str) (.str))) (.pair (.slice (.pair (.str) (.pair (.int .i64) (.pair (.int .i64) (.pair (.int .i64) (.slice (.str))))))) (.pair (.slice (.str)) (.pair (.slice (.pair (.pair (.int .i64) (.pair (.int .i64) (.pair (.slice (.str)) (.pair (.slice (.pair (.str) (.pair (.int .i64) (.int .i64)))) (.pair (.slice (.str)) (.slice (.str))))))) (.bool))) (.int .i64)))), [.emp, .emp, .emp, .emp, .v (.int .i64) (0 : Int)], [(42, 0), (43, 1), (23, 2), (44, 3), (3, 4)], 0, true, [], []⟩),
  (46, ⟨5, 104, true, .pair (.slice (.pair (.str) (.str))) (.pair (.slice (.pair (.str) (.pair (.int .i64) (.pair (.int .i64) (.pair (.int .i64) (.slice (.str))))))) (.pair (.slice (.str)) (.pair (.slice (.pair (.pair (.int .i64) (.pair (.int .i64) (.pair (.slice (.str)) (.pair (.slice (.pair (.str) (.pair (.int .i64) (.int .i64)))) (.pair (.slice (.str)) (.slice (.str))))))) (.bool))) (.int .i64)))), [.emp, .emp, .emp, .emp, .v (.int .i64) (0 : Int)], [(42, 0), (43, 1), (23, 2), (44, 3), (3, 4)], 0, true, [], []⟩),
  (47, ⟨1, 8, false, .pair .bool .bool, [.u], [], 0, false, [], []⟩),
  (48, ⟨1, 8, false, .pair .bool .bool, [.u], [], 0, false, [], []⟩),
  (49, ⟨1, 8, false, .pair .bool .bool, [.u], [], 0, false, [], []⟩),
  (50, ⟨1, 8, false, .pair .bool .bool, [.u], [], 0, false, [], []⟩),
  (51, ⟨1, 8, false, .pair .bool .bool, [.u], [], 0, false, [], []⟩),
  (52, ⟨1, 24, false, .slice (.int .i64), [.emp], [], 3, true, [], []⟩),
  (53, ⟨1, 8, false, .pair .bool .bool, [.u], [], 0, false, [], []⟩),
  (54, ⟨1, 8, false, .pair .bool .bool, [.u], [], 0, false, [], []⟩),
  (55, ⟨1, 8, false, .pair .bool .bool, [.u], [], 0, false, [], []⟩),
  (56, ⟨1, 8, false, .pair .bool .bool, [.u], [], 0, false, [], []⟩),
  (57, ⟨1, 24, false, .slice (.int .u8), [.emp], [], 5, true, [], []⟩),
  (59, ⟨1, 8, false, .pair .bool .bool, [.u], [], 0, false, [], []⟩),
  (61, ⟨1, 8, false, .pair .bool .bool, [.u], [], 0, false, [], []⟩),
  (62, ⟨1, 8, false, .pair .bool .bool, [.u], [], 0, false, [], []⟩),
  (63, ⟨5, 64, true, .pair (.str) (.pair (.int .i64) (.pair (.int .i64) (.pair (.int .i64) (.slice (.str))))), [.v .str [], .v (.int .i64) (0 : Int), .v (.int .i64) (0 : Int), .v (.int .i64) (0 : Int), .emp], [(9, 0), (3, 1), (3, 2), (3, 3), (23, 4)], 0, true, [], [9]⟩),
  (64, ⟨5, 64, true, .pair (.str) (.pair (.int .i64) (.pair (.int .i64) (.pair (.int .i64) (.slice (.str))))), [.v .str [], .v (.int .i64) (0 : Int), .v (.int .i64) (0 : Int), .v (.int .i64) (0 : Int), .emp], [(9, 0), (3, 1), (3, 2), (3, 3), (23, 4)], 0, true, [], [9]⟩),
  (65, ⟨1, 8, false, .pair .bool .bool, [.u], [], 0, false, [], []⟩),
  (66, ⟨1, 8, false, .pair .bool .bool, [.u], [], 0, false, [], []⟩),
  (67, ⟨1, 8, false, .pair .bool .bool, [.u], [], 0, false, [], []⟩),
  (68, ⟨1, 8, false, .pair .bool .bool, [.u], [], 0, false, [], []⟩),
  (69, ⟨1, 8, false, .pair .bool .bool, [.u], [], 0, false, [], []⟩),
  (70, ⟨1, 8, false, .pair .bool .bool, [.u], [], 0, false, [], []⟩),
  (71, ⟨1, 8, false, .pair .bool .bool, [.u], [], 0, false, [], []⟩),
  (72, ⟨1, 8, false, .pair .bool .bool, [.u], [], 0, false, [], []⟩),
  (73, ⟨1, 8, false, .pair .bool .bool, [.u], [], 0, false, [], []⟩),
  (74, ⟨3, 32, true, .pair (.str) (.pair (.int .i64) (.int .i64)), [.v .str [], .v (.int .i64) (0 : Int), .v (.int .i64) (0 : Int)], [(9, 0), (3, 1), (3, 2)], 0, true, [.str, .int .i64, .int .i64], []⟩),
  (75, ⟨3, 32, true, .pair (.str) (.pair (.int .i64) (.int .i64)), [.v .str [], .v (.int .i64) (0 : Int), .v (.int .i64) (0 : Int)], [(9, 0), (3, 1), (3, 2)], 0, true, [.str, .int .i64, .int .i64], []⟩),
  (76, ⟨1, 8, false, .pair .bool .bool, [.u], [], 0, false, [], []⟩),
  (77, ⟨1, 8, false, .pair .bool .bool, [.u], [], 0, false, [], []⟩),
  (78, ⟨1, 8, false, .pair .bool .bool, [.u], [], 0, false, [], []⟩),
  (79, ⟨1, 8, false, .pair .bool .bool, [.u], [], 0, false, [], []⟩),
  (80, ⟨1, 8, false, .pair .bool .bool, [.u], [], 0, false, [], []⟩),
  (81, ⟨1, 8, false, .pair .bool .bool, [.u], [], 0, false, [], []⟩),
  (82, ⟨1, 8, false, .pair .bool .bool, [.u], [], 0, false, [], []⟩),
  (83, ⟨1, 8, false, .pair .bool .bool, [.u], [], 0, false, [], []⟩),
  (84, ⟨1, 8, false, .pair .bool .bool, [.u], [], 0, false, [], []⟩),
  (85, ⟨2, 32, true, .pair (.str) (.str), [.v .str [], .v .str []], [(9, 0), (9, 1)], 0, true, [.str, .str], []⟩),
  (86, ⟨2, 32, true, .pair (.str) (.str), [.v .str [], .v .str []], [(9, 0), (9, 1)], 0, true, [.str, .str], []⟩),
  (87, ⟨1, 8, false, .pair .bool .bool, [.u], [], 0, false, [], []⟩),
  (88, ⟨7, 120, true, .pair (.pair (.int .i64) (.pair (.int .i64) (.pair (.slice (.str)) (.pair (.slice (.pair (.str) (.pair (.int .i64) (.int .i64)))) (.pair (.slice (.str)) (.slice (.str))))))) (.bool), [.v (.int .i64) (0 : Int), .v (.int .i64) (0 : Int), .emp, .emp, .emp, .emp, .v .bool false], [(31, 0), (4, 6)], 0, true, [], [9, 75, 9, 9]⟩),
  (89, ⟨7, 120, true, .pair (.pair (.int .i64) (.pair (.int .i64) (.pair (.slice (.str)) (.pair (.slice (.pair (.str) (.pair (.int .i64) (.int .i64)))) (.pair (.slice (.str)) (.slice (.str))))))) (.bool), [.v (.int .i64) (0 : Int), .v (.int .i64) (0 : Int), .emp, .emp, .emp, .emp, .v .bool false], [(31, 0), (4, 6)], 0, true, [], [9, 75, 9, 9]⟩),
  (90, ⟨1, 8, false, .pair .bool .bool, [.u], [], 0, false, [], []⟩),
  (91, ⟨1, 8, false, .pair .bool .bool, [.u], [], 0, false, [], []⟩),
  (92, ⟨1, 8, false, .pair .bool .bool, [.u], [], 0, false, [], []⟩),
  (93, ⟨1, 8, false, .pair .bool .bool, [.u], [], 0, false, [], []⟩),
  (94, ⟨1, 8, false, .pair .bool .bool, [.u], [], 0, false, [], []⟩),
  (95, ⟨1, 8, false, .pair .bool .bool, [.u], [], 0, false, [], []⟩),
  (96, ⟨1, 8, false, .pair .bool .bool, [.u], [], 0, false, [], []⟩),
  (97, ⟨1, 8, false, .pair .bool .bool, [.u], [], 0, false, [], []⟩),
  (98, ⟨1, 8, false, .pair .bool .bool, [.u], [], 0, false, [], []⟩),
  (99, ⟨1, 8, false, .pair .bool .bool, [.u], [], 0, false, [], []⟩),
  (100, ⟨1, 8, false, .pair .bool .bool, [.u], [], 0, false, [], []⟩),
  (101, ⟨1, 8, false, .pair .bool .bool, [.u], [], 0, false, [], []⟩),
  (102, ⟨1, 8, false, .pair .bool .bool, [.u], [], 0, false, [], []⟩),
  (103, ⟨1, 8, false, .pair .bool .bool, [.u], [], 0, false, [], []⟩),
  (104, ⟨1, 8, false, .pair .bool .bool, [.u], [], 0, false, [], []⟩),
  (105, ⟨1, 8, false, .pair .bool .bool, [.u], [], 0, false, [], []⟩),
  (106, ⟨1, 8, false, .pair .bool .bool, [.u], [], 0, false, [], []⟩),
  (107, ⟨1, 8, false, .pair .bool .bool, [.u], [], 0, false, [], []⟩),
  (108, ⟨1, 8, false, .pair .bool .bool, [.u], [], 0, false, [], []⟩),
  (109, ⟨1, 8, false, .pair .bool .bool, [.u], [], 0, false, [], []⟩),
  (110, ⟨1, 8, false, .pair .bool .bool, [.u], [], 0, false, [], []⟩),
  (111, ⟨1, 8, false, .pair .bool .bool, [.u], [], 0, false, [], []⟩),
  (112, ⟨3, 32, true, .pair (.str) (.pair (.int .i64) (.int .i64)), [.v .str [], .v (.int .i64) (0 : Int), .v (.int .i64) (0 : Int)], [(9, 0), (3, 1), (3, 2)], 0, true, [.str, .int .i64, .int .i64], []⟩),
  (113, ⟨1, 8, false, .pair .bool .bool, [.u], [], 0, false, [], []⟩),
  (114, ⟨1, 8, false, .pair .bool .bool, [.u], [], 0, false, [], []⟩),
  (115, ⟨1, 8, false, .pair .bool .bool, [.u], [], 0, false, [], []⟩),
  (116, ⟨1, 8, false, .pair .bool .bool, [.u], [], 0, false, [], []⟩),
  (117, ⟨2, 32, true, .pair (.str) (.str), [.v .str [], .v .str []], [(9, 0), (9, 1)], 0, true, [.str, .str], []⟩),
  (118, ⟨1, 8, false, .pair .bool .bool, [.u], [], 0, false, [], []⟩),
  (119, ⟨5, 64, true, .pair (.str) (.pair (.int .i64) (.pair (.int .i64) (.pair (.int .i64) (.slice (.str))))), [.v .str [], .v (.int .i64) (0 : Int), .v (.int .i64) (0 : Int), .v (.int .i64) (0 : Int), .emp], [(9, 0), (3, 1), (3, 2), (3, 3), (23, 4)], 0, true, [], [9]⟩),
  (120, ⟨1, 8, false, .pair .bool .bool, [.u], [], 0, false, [], []⟩),
  (121, ⟨7, 120, true, .pair (.pair (.int .i64) (.pair (.int .i64) (.pair (.slice (.str)) (.pair (.slice (.pair (.str) (.pair (.int .i64) (.int .i64)))) (.pair (.slice (.str)) (.slice (.str))))))) (.bool), [.v (.int .i64) (0 : Int), .v (.int .i64) (0 : Int), .emp, .emp, .emp, .emp, .v .bool false], [(26, 0), (4, 6)], 0, true, [], [9, 112, 9, 9]⟩),
  (122, ⟨7, 120, true, .pair (.pair (.int .i64) (.pair (.int .i64) (.pair (.slice (.str)) (.pair (.slice (.pair (.str) (.pair (.int .i64) (.int .i64)))) (.pair (.slice (.str)) (.slice (.str))))))) (.bool), [.v (.int .i64) (0 : Int), .v (.int .i64) (0 : Int), .emp, .emp, .emp, .emp, .v .bool false], [(26, 0), (4, 6)], 0, true, [], [9, 112, 9, 9]⟩),
  (123, ⟨1, 8, false, .pair .bool .bool, [.u], [], 0, false, [], []⟩),
  (124, ⟨1, 8, false, .pair .bool .bool, [.u], [], 0, false, [], []⟩),
  (125, ⟨1, 8, false, .pair .bool .bool, [.u], [], 0, false, [], []⟩),
  (126, ⟨1, 8, false, .pair .bool .bool, [.u], [], 0, false, [], []⟩),
  (127, ⟨1, 8, false, .pair .bool .bool, [.u], [], 0, false, [], []⟩),
  (128, ⟨1, 8, false, .pair .bool .bool, [.u], [], 0, false, [], []⟩),
  (129, ⟨1, 8, false, .pair .bool .bool, [.u], [], 0, false, [], []⟩),
  (130, ⟨1, 8, false, .pair .bool .bool, [.u], [], 0, false, [], []⟩),
  (131, ⟨1, 8, false, .pair .bool .bool, [.u], [], 0, false, [], []⟩),
  (132, ⟨1, 8, false, .pair .bool .bool, [.u], [], 0, false, [], []⟩),
  (133, ⟨1, 8, false, .pair .bool .bool, [.u], [], 0, false, [], []⟩),
  (134, ⟨1, 8, false, .pair .bool .bool, [.u], [], 0, false, [], []⟩),
  (135, ⟨1, 8, false, .pair .bool .bool, [.u], [], 0, false, [], []⟩),
  (136, ⟨1, 8, false, .pair .bool .bool, [.u], [], 0, false, [], []⟩),
  (137, ⟨2, 32, true, .pair (.slice (.int .u8)) (.int .i64), [.emp, .v (.int .i64) (0 : Int)], [(57, 0), (3, 1)], 0, true, [], [5]⟩),
  (138, ⟨2, 32, true, .pair (.slice (.int .u8)) (.int .i64), [.emp, .v (.int .i64) (0 : Int)], [(57, 0), (3, 1)], 0, true, [], [5]⟩),
  (139, ⟨1, 8, false, .pair .bool .bool, [.u], [], 0, false, [], []⟩),
  (140, ⟨1, 8, false, .pair .bool .bool, [.u], [], 0, false, [], []⟩),
  (141, ⟨1, 8, false, .pair .bool .bool, [.u], [], 0, false, [], []⟩),
  (142, ⟨1, 8, false, .pair .bool .bool, [.u], [], 0, false, [], []⟩),
  (143, ⟨1, 8, false, .pair .bool .bool, [.u], [], 0, false, [], []⟩),
  (144, ⟨1, 8, false, .pair .bool .bool, [.u], [], 0, false, [], []⟩),
  (145, ⟨1, 8, false, .pair .bool .bool, [.u], [], 0, false, [], []⟩),
  (146, ⟨1, 8, false, .pair .bool .bool, [.u], [], 0, false, [], []⟩),
  (147, ⟨1, 8, false, .pair .bool .bool, [.u], [], 0, false, [], []⟩),
  (148, ⟨1, 8, false, .pair .bool .bool, [.u], [], 0, false, [], []⟩),
  (149, ⟨1, 8, false, .pair .bool .bool, [.u], [], 0, false, [], []⟩),
  (150, ⟨1, 8, false, .pair .bool .bool, [.u], [], 0, false, [], []⟩),
  (151, ⟨10, 144, true, .pair (.pair (.int .i64) (.pair (.int .i64) (.pair (.slice (.str)) (.pair (.slice (.pair (.str) (.pair (.int .i64) (.int .i64)))) (.pair (.slice (.str)) (.slice (.str))))))) (.pair (.int .i64) (.pair (.int .i64) (.pair (.int .i64) (.bool)))), [.v (.int .i64) (0 : Int), .v (.int .i64) (0 : Int), .emp, .emp, .emp, .emp, .v (.int .i64) (0 : Int), .v (.int .i64) (0 : Int), .v (.int .i64) (0 : Int), .v .bool false], [(31, 0), (3, 6), (3, 7), (3, 8), (4, 9)], 0, true, [], [9, 75, 9, 9]⟩),
  (152, ⟨10, 144, true, .pair (.pair (.int .i64) (.pair (.int .i64) (.pair (.slice (.str)) (.pair (.slice (.pair (.str) (.pair (.int .i64) (.int .i64)))) (.pair (.slice (.str)) (.slice (.str))))))) (.pair (.int .i64) (.pair (.int .i64) (.pair (.int .i64) (.bool)))), [.v (.int .i64) (0 : Int), .v (.int .i64) (0 : Int), .emp, .emp, .emp, .emp, .v (.int .i64) (0 : Int), .v (.int .i64) (0 : Int), .v (.int .i64) (0 : Int), .v .bool false], [(31, 0), (3, 6), (3, 7), (3, 8), (4, 9)], 0, true, [], [9, 75, 9, 9]⟩),
  (153, ⟨1, 8, false, .pair .bool .bool, [.u], [], 0, false, [], []⟩),
  (154, ⟨1, 8, false, .pair .bool .bool, [.u], [], 0, false, [], []⟩),
  (155, ⟨1, 8, false, .pair .bool .bool, [.u], [], 0, false, [], []⟩),
  (156, ⟨1, 8, false, .pair .bool .bool, [.u], [], 0, false, [], []⟩),
  (157, ⟨1, 8, false, .pair .bool .bool, [.u], [], 0, false, [], []⟩),
  (158, ⟨1, 8, false, .pair .bool .bool, [.u], [], 0, false, [], []⟩),
  (159, ⟨1, 24, false, .slice (.slice (.str)), [.emp], [], 23, true, [], []⟩),
  (160, ⟨1, 8, false, .pair .bool .bool, [.u], [], 0, false, [], []⟩),
  (161, ⟨1, 8, false, .pair .bool .bool, [.u], [], 0, false, [], []⟩),
  (162, ⟨1, 8, false, .pair .bool .bool, [.u], [], 0, false, [], []⟩),
  (163, ⟨1, 8, false, .pair .bool .bool, [.u], [], 0, false, [], []⟩),
  (164, ⟨1, 8, false, .pair .bool .bool, [.u], [], 0, false, [], []⟩),
  (165, ⟨1, 8, false, .pair .bool .bool, [.u], [], 0, false, [], []⟩),
  (166, ⟨1, 8, false, .pair .bool .bool, [.u], [], 0, false, [], []⟩),
  (167, ⟨4, 40, true, .pair .bool .bool, [.u, .u, .u, .v .str []], [(17, 0), (17, 1), (17, 2), (9, 3)], 0, false, [], []⟩),
  (168, ⟨4, 40, true, .pair .bool .bool, [.u, .u, .u, .v .str []], [(17, 0), (17, 1), (17, 2), (9, 3)], 0, false, [], []⟩),
  (172, ⟨1, 8, false, .pair .bool .bool, [.u], [], 0, false, [], []⟩),
  (173, ⟨1, 4, false, .int .u32, [.v (.int .u32) (0 : Int)], [], 0, true, [], []⟩),
  (174, ⟨1, 1, false, .int .u8, [.v (.int .u8) (0 : Int)], [], 0, true, [], []⟩),
  (175, ⟨1, 1, false, .int .u8, [.v (.int .u8) (0 : Int)], [], 0, true, [], []⟩),
  (176, ⟨1, 8, false, .pair .bool .bool, [.u], [], 0, false, [], []⟩),
  (177, ⟨1, 8, false, .pair .bool .bool, [.u], [], 0, false, [], []⟩),
  (178, ⟨1, 4, false, .int .i32, [.v (.int .i32) (0 : Int)], [], 0, true, [], []⟩),
  (179, ⟨1, 4, false, .int .i32, [.v (.int .i32) (0 : Int)], [], 0, true, [], []⟩),
  (180, ⟨11, 48, true, .pair .bool .bool, [.v (.int .u64) (0 : Int), .v (.int .u64) (0 : Int), .v (.int .u32) (0 : Int), .v (.int .u8) (0 : Int), .v (.int .u8) (0 : Int), .v (.int .u8) (0 : Int), .v (.int .u8) (0 : Int), .u, .u, .v (.int .i32) (0 : Int), .v (.int .i32) (0 : Int)], [(12, 0), (12, 1), (173, 2), (174, 3), (5, 4), (5, 5), (175, 6), (176, 7), (177, 8), (178, 9), (179, 10)], 0, false, [], []⟩),
  (181, ⟨11, 48, true, .pair .bool .bool, [.v (.int .u64) (0 : Int), .v (.int .u64) (0 : Int), .v (.int .u32) (0 : Int), .v (.int .u8) (0 : Int), .v (.int .u8) (0 : Int), .v (.int .u8) (0 : Int), .v (.int .u8) (0 : Int), .u, .u, .v (.int .i32) (0 : Int), .v (.int .i32) (0 : Int)], [(12, 0), (12, 1), (173, 2), (174, 3), (5, 4), (5, 5), (175, 6), (176, 7), (177, 8), (178, 9), (179, 10)], 0, false, [], []⟩),
  (182, ⟨1, 8, false, .pair .bool .bool, [.u], [], 0, false, [], []⟩)]
theorem tabOK : TTok Try.prog (tabOf tabL) := tab_ok (by kernel_rfl)
theorem mixed : Try.prog.follows .mixedOrders = true := Try.checked.mixed
end Go.MC

/- What the functions tell of data, in plain Lean: printed by the program tool/gen.py of this repo. -/
set_option linter.unusedVariables false
namespace Go.MC.F
noncomputable section
def laws_szClaimFoe (N : Nat) (a : Foe) (left : Int) : Option Int :=
  bif decide (IntKind.i64.wrap (left - (↑(List.length a.1) : Int)) < 0) then
    (some (-1))
  else
    (bif decide (IntKind.i64.wrap (IntKind.i64.wrap (left - (↑(List.length a.1) : Int)) - (↑(List.length a.2) : Int)) < 0) then
      (some (-1))
    else
      (some (IntKind.i64.wrap (IntKind.i64.wrap (left - (↑(List.length a.1) : Int)) - (↑(List.length a.2) : Int)))))
def laws_szClaimFoeS_0r (N : Nat) (a : List Foe) (next : Int → Int → Option Int) : Int → Int → Option Int := fun left1 i5 =>
    bif decide (i5 < (↑a.length : Int)) then
      (bif decide (0 ≤ i5) then
        (bif decide (i5 < (↑a.length : Int)) then
          (ob (F.laws_szClaimFoe N (a.getD (Int.toNat i5) dFoe) left1) (Int.ofNat 0) fun r =>
          bif decide (r < 0) then
            (some (-1))
          else
            (next r (IntKind.i64.wrap (i5 + 1)))) else none) else none)
    else
      (some left1)
def laws_szClaimFoeS_0 (N : Nat) (a : List Foe) : Nat → Int → Int → Option Int := lp (fun _ _ => none) fun next => laws_szClaimFoeS_0r N a next
def laws_szClaimFoeSb (N : Nat) (I0 : (List Foe) → Nat → Int → Int → Option Int) (a : List Foe) (left : Int) : Option Int :=
  bif decide (IntKind.i64.wrap (left - (↑a.length : Int)) < 0) then
    (some (-1))
  else
    (I0 a N (IntKind.i64.wrap (left - (↑a.length : Int))) 0)
def laws_szClaimFoeS (N : Nat) (a : List Foe) (left : Int) : Option Int := laws_szClaimFoeSb N (laws_szClaimFoeS_0 N) a left
def laws_szStringS_0r (N : Nat) (a : List Txt) (next : Int → Int → Option Int) : Int → Int → Option Int := fun left1 i5 =>
    bif decide (i5 < (↑a.length : Int)) then
      (bif decide (0 ≤ i5) then
        (bif decide (i5 < (↑a.length : Int)) then
          (bif decide (IntKind.i64.wrap (left1 - (↑(List.length (a.getD (Int.toNat i5) [])) : Int)) < 0) then
            (some (-1))
          else
            (next (IntKind.i64.wrap (left1 - (↑(List.length (a.getD (Int.toNat i5) [])) : Int))) (IntKind.i64.wrap (i5 + 1)))) else none) else none)
    else
      (some left1)
def laws_szStringS_0 (N : Nat) (a : List Txt) : Nat → Int → Int → Option Int := lp (fun _ _ => none) fun next => laws_szStringS_0r N a next
def laws_szStringSb (N : Nat) (I0 : (List Txt) → Nat → Int → Int → Option Int) (a : List Txt) (left : Int) : Option Int :=
  bif decide (IntKind.i64.wrap (left - (↑a.length : Int)) < 0) then
    (some (-1))
  else
    (I0 a N (IntKind.i64.wrap (left - (↑a.length : Int))) 0)
def laws_szStringS (N : Nat) (a : List Txt) (left : Int) : Option Int := laws_szStringSb N (laws_szStringS_0 N) a left
def laws_szClaimSpot (N : Nat) (a : Spot) (left : Int) : Option Int :=
  bif decide (IntKind.i64.wrap (left - (↑(List.length a.1) : Int)) < 0) then
    (some (-1))
  else
    (ob (F.laws_szStringS N a.2.2.2.2 (IntKind.i64.wrap (left - (↑(List.length a.1) : Int)))) (Int.ofNat 0) fun r =>
    bif decide (r < 0) then
      (some (-1))
    else
      (some r))
def laws_szClaimSpotS_0r (N : Nat) (a : List Spot) (next : Int → Int → Option Int) : Int → Int → Option Int := fun left1 i5 =>
    bif decide (i5 < (↑a.length : Int)) then
      (bif decide (0 ≤ i5) then
        (bif decide (i5 < (↑a.length : Int)) then
          (ob (F.laws_szClaimSpot N (a.getD (Int.toNat i5) dSpot) left1) (Int.ofNat 0) fun r =>
          bif decide (r < 0) then
            (some (-1))
          else
            (next r (IntKind.i64.wrap (i5 + 1)))) else none) else none)
    else
      (some left1)
def laws_szClaimSpotS_0 (N : Nat) (a : List Spot) : Nat → Int → Int → Option Int := lp (fun _ _ => none) fun next => laws_szClaimSpotS_0r N a next
def laws_szClaimSpotSb (N : Nat) (I0 : (List Spot) → Nat → Int → Int → Option Int) (a : List Spot) (left : Int) : Option Int :=
  bif decide (IntKind.i64.wrap (left - (↑a.length : Int)) < 0) then
    (some (-1))
  else
    (I0 a N (IntKind.i64.wrap (left - (↑a.length : Int))) 0)
def laws_szClaimSpotS (N : Nat) (a : List Spot) (left : Int) : Option Int := laws_szClaimSpotSb N (laws_szClaimSpotS_0 N) a left
def laws_szClaimUse (N : Nat) (a : Use) (left : Int) : Option Int :=
  bif decide (IntKind.i64.wrap (left - (↑(List.length a.1) : Int)) < 0) then
    (some (-1))
  else
    (some (IntKind.i64.wrap (left - (↑(List.length a.1) : Int))))
def laws_szClaimUseS_0r (N : Nat) (a : List Use) (next : Int → Int → Option Int) : Int → Int → Option Int := fun left1 i5 =>
    bif decide (i5 < (↑a.length : Int)) then
      (bif decide (0 ≤ i5) then
        (bif decide (i5 < (↑a.length : Int)) then
          (ob (F.laws_szClaimUse N (a.getD (Int.toNat i5) dUse) left1) (Int.ofNat 0) fun r =>
          bif decide (r < 0) then
            (some (-1))
          else
            (next r (IntKind.i64.wrap (i5 + 1)))) else none) else none)
    else
      (some left1)
def laws_szClaimUseS_0 (N : Nat) (a : List Use) : Nat → Int → Int → Option Int := lp (fun _ _ => none) fun next => laws_szClaimUseS_0r N a next
def laws_szClaimUseSb (N : Nat) (I0 : (List Use) → Nat → Int → Int → Option Int) (a : List Use) (left : Int) : Option Int :=
  bif decide (IntKind.i64.wrap (left - (↑a.length : Int)) < 0) then
    (some (-1))
  else
    (I0 a N (IntKind.i64.wrap (left - (↑a.length : Int))) 0)
def laws_szClaimUseS (N : Nat) (a : List Use) (left : Int) : Option Int := laws_szClaimUseSb N (laws_szClaimUseS_0 N) a left
def laws_szClaimWant (N : Nat) (a : Want) (left : Int) : Option Int :=
  ob (F.laws_szStringS N a.2.2.1 left) (Int.ofNat 0) fun r =>
  bif decide (r < 0) then
    (some (-1))
  else
    (ob (F.laws_szClaimUseS N a.2.2.2.1 r) (Int.ofNat 0) fun r_1 =>
    bif decide (r_1 < 0) then
      (some (-1))
    else
      (ob (F.laws_szStringS N a.2.2.2.2.1 r_1) (Int.ofNat 0) fun r_2 =>
      bif decide (r_2 < 0) then
        (some (-1))
      else
        (ob (F.laws_szStringS N a.2.2.2.2.2 r_2) (Int.ofNat 0) fun r_3 =>
        bif decide (r_3 < 0) then
          (some (-1))
        else
          (some r_3))))
def laws_szClaimPart (N : Nat) (a : Part) (left : Int) : Option Int :=
  ob (F.laws_szClaimWant N a.1 left) (Int.ofNat 0) fun r =>
  bif decide (r < 0) then
    (some (-1))
  else
    (some r)
def laws_szClaimPartS_0r (N : Nat) (a : List Part) (next : Int → Int → Option Int) : Int → Int → Option Int := fun left1 i5 =>
    bif decide (i5 < (↑a.length : Int)) then
      (bif decide (0 ≤ i5) then
        (bif decide (i5 < (↑a.length : Int)) then
          (ob (F.laws_szClaimPart N (a.getD (Int.toNat i5) dPart) left1) (Int.ofNat 0) fun r =>
          bif decide (r < 0) then
            (some (-1))
          else
            (next r (IntKind.i64.wrap (i5 + 1)))) else none) else none)
    else
      (some left1)
def laws_szClaimPartS_0 (N : Nat) (a : List Part) : Nat → Int → Int → Option Int := lp (fun _ _ => none) fun next => laws_szClaimPartS_0r N a next
def laws_szClaimPartSb (N : Nat) (I0 : (List Part) → Nat → Int → Int → Option Int) (a : List Part) (left : Int) : Option Int :=
  bif decide (IntKind.i64.wrap (left - (↑a.length : Int)) < 0) then
    (some (-1))
  else
    (I0 a N (IntKind.i64.wrap (left - (↑a.length : Int))) 0)
def laws_szClaimPartS (N : Nat) (a : List Part) (left : Int) : Option Int := laws_szClaimPartSb N (laws_szClaimPartS_0 N) a left
def laws_szClaimBook (N : Nat) (a : Book) (left : Int) : Option Int :=
  ob (F.laws_szClaimFoeS N a.1 left) (Int.ofNat 0) fun r =>
  bif decide (r < 0) then
    (some (-1))
  else
    (ob (F.laws_szClaimSpotS N a.2.1 r) (Int.ofNat 0) fun r_1 =>
    bif decide (r_1 < 0) then
      (some (-1))
    else
      (ob (F.laws_szStringS N a.2.2.1 r_1) (Int.ofNat 0) fun r_2 =>
      bif decide (r_2 < 0) then
        (some (-1))
      else
        (ob (F.laws_szClaimPartS N a.2.2.2.1 r_2) (Int.ofNat 0) fun r_3 =>
        bif decide (r_3 < 0) then
          (some (-1))
        else
          (some r_3))))
def laws_toClaimFoe (N : Nat) (a : Foe) : Option Foe :=
  some a
def laws_toClaimFoeS_0r (N : Nat) (a : List Foe) (next : Int → (List Foe) → Option (List Foe)) : Int → (List Foe) → Option (List Foe) := fun i4 out3a =>
    bif decide (i4 < (↑a.length : Int)) then
      (bif decide (0 ≤ i4) then
        (bif decide (i4 < (↑a.length : Int)) then
          (ob (F.laws_toClaimFoe N (a.getD (Int.toNat i4) dFoe)) dFoe fun r =>
          bif decide (0 ≤ i4) then
            (bif decide (i4 < (↑out3a.length : Int)) then
              (let out3as : List Foe := out3a.set (Int.toNat i4) r
              next (IntKind.i64.wrap (i4 + 1)) out3as) else none) else none) else none) else none)
    else
      (some out3a)
def laws_toClaimFoeS_0 (N : Nat) (a : List Foe) : Nat → Int → (List Foe) → Option (List Foe) := lp (fun _ _ => none) fun next => laws_toClaimFoeS_0r N a next
def laws_toClaimFoeSb (N : Nat) (I0 : (List Foe) → Nat → Int → (List Foe) → Option (List Foe)) (a : List Foe) : Option (List Foe) :=
  bif decide ((↑a.length : Int) = (↑a.length : Int)) then
    (bif decide ((↑a.length : Int).toNat * 32 ≤ lim) && (Nat.ble 1 32 && true) then
      (I0 a N 0 (List.replicate (↑a.length : Int).toNat dFoe)) else none) else none
def laws_toClaimFoeS (N : Nat) (a : List Foe) : Option (List Foe) := laws_toClaimFoeSb N (laws_toClaimFoeS_0 N) a
def laws_toStringS_0r (N : Nat) (a : List Txt) (next : Int → (List Txt) → Option (List Txt)) : Int → (List Txt) → Option (List Txt) := fun i4 out3a =>
    bif decide (i4 < (↑a.length : Int)) then
      (bif decide (0 ≤ i4) then
        (bif decide (i4 < (↑a.length : Int)) then
          (bif decide (0 ≤ i4) then
            (bif decide (i4 < (↑out3a.length : Int)) then
              (let out3as : List Txt := out3a.set (Int.toNat i4) (a.getD (Int.toNat i4) [])
              next (IntKind.i64.wrap (i4 + 1)) out3as) else none) else none) else none) else none)
    else
      (some out3a)
def laws_toStringS_0 (N : Nat) (a : List Txt) : Nat → Int → (List Txt) → Option (List Txt) := lp (fun _ _ => none) fun next => laws_toStringS_0r N a next
def laws_toStringSb (N : Nat) (I0 : (List Txt) → Nat → Int → (List Txt) → Option (List Txt)) (a : List Txt) : Option (List Txt) :=
  bif decide ((↑a.length : Int) = (↑a.length : Int)) then
    (bif decide ((↑a.length : Int).toNat * 16 ≤ lim) && (Nat.ble 1 16 && true) then
      (I0 a N 0 (List.replicate (↑a.length : Int).toNat [])) else none) else none
def laws_toStringS (N : Nat) (a : List Txt) : Option (List Txt) := laws_toStringSb N (laws_toStringS_0 N) a
def laws_toClaimSpot (N : Nat) (a : Spot) : Option Spot :=
  ob (F.laws_toStringS N a.2.2.2.2) [] fun r =>
  some (a.1, a.2.1, a.2.2.1, a.2.2.2.1, r)
def laws_toClaimSpotS_0r (N : Nat) (a : List Spot) (next : Int → (List Spot) → Option (List Spot)) : Int → (List Spot) → Option (List Spot) := fun i4 out3a =>
    bif decide (i4 < (↑a.length : Int)) then
      (bif decide (0 ≤ i4) then
        (bif decide (i4 < (↑a.length : Int)) then
          (ob (F.laws_toClaimSpot N (a.getD (Int.toNat i4) dSpot)) dSpot fun r =>
          bif decide (0 ≤ i4) then
            (bif decide (i4 < (↑out3a.length : Int)) then
              (let out3as : List Spot := out3a.set (Int.toNat i4) r
              next (IntKind.i64.wrap (i4 + 1)) out3as) else none) else none) else none) else none)
    else
      (some out3a)
def laws_toClaimSpotS_0 (N : Nat) (a : List Spot) : Nat → Int → (List Spot) → Option (List Spot) := lp (fun _ _ => none) fun next => laws_toClaimSpotS_0r N a next
def laws_toClaimSpotSb (N : Nat) (I0 : (List Spot) → Nat → Int → (List Spot) → Option (List Spot)) (a : List Spot) : Option (List Spot) :=
  bif decide ((↑a.length : Int) = (↑a.length : Int)) then
    (bif decide ((↑a.length : Int).toNat * 64 ≤ lim) && (Nat.ble 1 64 && true) then
      (I0 a N 0 (List.replicate (↑a.length : Int).toNat dSpot)) else none) else none
def laws_toClaimSpotS (N : Nat) (a : List Spot) : Option (List Spot) := laws_toClaimSpotSb N (laws_toClaimSpotS_0 N) a
def laws_toClaimUse (N : Nat) (a : Use) : Option Use :=
  some a
def laws_toClaimUseS_0r (N : Nat) (a : List Use) (next : Int → (List Use) → Option (List Use)) : Int → (List Use) → Option (List Use) := fun i4 out3a =>
    bif decide (i4 < (↑a.length : Int)) then
      (bif decide (0 ≤ i4) then
        (bif decide (i4 < (↑a.length : Int)) then
          (ob (F.laws_toClaimUse N (a.getD (Int.toNat i4) dUse)) dUse fun r =>
          bif decide (0 ≤ i4) then
            (bif decide (i4 < (↑out3a.length : Int)) then
              (let out3as : List Use := out3a.set (Int.toNat i4) r
              next (IntKind.i64.wrap (i4 + 1)) out3as) else none) else none) else none) else none)
    else
      (some out3a)
def laws_toClaimUseS_0 (N : Nat) (a : List Use) : Nat → Int → (List Use) → Option (List Use) := lp (fun _ _ => none) fun next => laws_toClaimUseS_0r N a next
def laws_toClaimUseSb (N : Nat) (I0 : (List Use) → Nat → Int → (List Use) → Option (List Use)) (a : List Use) : Option (List Use) :=
  bif decide ((↑a.length : Int) = (↑a.length : Int)) then
    (bif decide ((↑a.length : Int).toNat * 32 ≤ lim) && (Nat.ble 1 32 && true) then
      (I0 a N 0 (List.replicate (↑a.length : Int).toNat dUse)) else none) else none
def laws_toClaimUseS (N : Nat) (a : List Use) : Option (List Use) := laws_toClaimUseSb N (laws_toClaimUseS_0 N) a
def laws_toClaimWant (N : Nat) (a : Want) : Option Want :=
  ob (F.laws_toStringS N a.2.2.1) [] fun r =>
  ob (F.laws_toClaimUseS N a.2.2.2.1) [] fun r_1 =>
  ob (F.laws_toStringS N a.2.2.2.2.1) [] fun r_2 =>
  ob (F.laws_toStringS N a.2.2.2.2.2) [] fun r_3 =>
  some (a.1, a.2.1, r, r_1, r_2, r_3)
def laws_toClaimPart (N : Nat) (a : Part) : Option Part :=
  ob (F.laws_toClaimWant N a.1) dWant fun r =>
  some (r, a.2)
def laws_toClaimPartS_0r (N : Nat) (a : List Part) (next : Int → (List Part) → Option (List Part)) : Int → (List Part) → Option (List Part) := fun i4 out3a =>
    bif decide (i4 < (↑a.length : Int)) then
      (bif decide (0 ≤ i4) then
        (bif decide (i4 < (↑a.length : Int)) then
          (ob (F.laws_toClaimPart N (a.getD (Int.toNat i4) dPart)) dPart fun r =>
          bif decide (0 ≤ i4) then
            (bif decide (i4 < (↑out3a.length : Int)) then
              (let out3as : List Part := out3a.set (Int.toNat i4) r
              next (IntKind.i64.wrap (i4 + 1)) out3as) else none) else none) else none) else none)
    else
      (some out3a)
def laws_toClaimPartS_0 (N : Nat) (a : List Part) : Nat → Int → (List Part) → Option (List Part) := lp (fun _ _ => none) fun next => laws_toClaimPartS_0r N a next
def laws_toClaimPartSb (N : Nat) (I0 : (List Part) → Nat → Int → (List Part) → Option (List Part)) (a : List Part) : Option (List Part) :=
  bif decide ((↑a.length : Int) = (↑a.length : Int)) then
    (bif decide ((↑a.length : Int).toNat * 120 ≤ lim) && (Nat.ble 1 120 && true) then
      (I0 a N 0 (List.replicate (↑a.length : Int).toNat dPart)) else none) else none
def laws_toClaimPartS (N : Nat) (a : List Part) : Option (List Part) := laws_toClaimPartSb N (laws_toClaimPartS_0 N) a
def laws_toClaimBook (N : Nat) (a : Book) : Option Book :=
  ob (F.laws_toClaimFoeS N a.1) [] fun r =>
  ob (F.laws_toClaimSpotS N a.2.1) [] fun r_1 =>
  ob (F.laws_toStringS N a.2.2.1) [] fun r_2 =>
  ob (F.laws_toClaimPartS N a.2.2.2.1) [] fun r_3 =>
  some (r, r_1, r_2, r_3, a.2.2.2.2)
def spec_l1In (N : Nat) (n : Int) (low : Int) (high : Int) : Option Bool :=
  bif decide (n ≥ low) then
    (some (decide (n ≤ high)))
  else
    (some false)
def spec_l1NameOk_0r (N : Nat) (s : Txt) (next : Int → Option Bool) : Int → Option Bool := fun i3 =>
    bif decide (i3 < (↑s.length : Int)) then
      (bif decide (0 ≤ i3) then
        (bif decide (i3 < (↑s.length : Int)) then
          (bif decide ((↑(s.getD (Int.toNat i3) 0).toNat : Int) ≥ 97) then
            (bif decide ((↑(s.getD (Int.toNat i3) 0).toNat : Int) ≤ 122) then
              (next (IntKind.i64.wrap (i3 + 1)))
            else
              (bif decide ((↑(s.getD (Int.toNat i3) 0).toNat : Int) ≥ 48) then
                (bif decide ((↑(s.getD (Int.toNat i3) 0).toNat : Int) ≤ 57) then
                  (next (IntKind.i64.wrap (i3 + 1)))
                else
                  (bif !(↑(s.getD (Int.toNat i3) 0).toNat : Int) == 45 then
                    (some false)
                  else
                    (next (IntKind.i64.wrap (i3 + 1)))))
              else
                (bif !(↑(s.getD (Int.toNat i3) 0).toNat : Int) == 45 then
                  (some false)
                else
                  (next (IntKind.i64.wrap (i3 + 1))))))
          else
            (bif decide ((↑(s.getD (Int.toNat i3) 0).toNat : Int) ≥ 48) then
              (bif decide ((↑(s.getD (Int.toNat i3) 0).toNat : Int) ≤ 57) then
                (next (IntKind.i64.wrap (i3 + 1)))
              else
                (bif !(↑(s.getD (Int.toNat i3) 0).toNat : Int) == 45 then
                  (some false)
                else
                  (next (IntKind.i64.wrap (i3 + 1)))))
            else
              (bif !(↑(s.getD (Int.toNat i3) 0).toNat : Int) == 45 then
                (some false)
              else
                (next (IntKind.i64.wrap (i3 + 1)))))) else none) else none)
    else
      (some true)
def spec_l1NameOk_0 (N : Nat) (s : Txt) : Nat → Int → Option Bool := lp (fun _ => none) fun next => spec_l1NameOk_0r N s next
def spec_l1NameOkb (N : Nat) (I0 : Txt → Nat → Int → Option Bool) (s : Txt) : Option Bool :=
  ob (F.spec_l1In N (↑s.length : Int) 1 8) false fun r =>
  bif !r then
    (some false)
  else
    (I0 s N 0)
def spec_l1NameOk (N : Nat) (s : Txt) : Option Bool := spec_l1NameOkb N (spec_l1NameOk_0 N) s
def spec_l2FoesOk_0r (N : Nat) (b : Book) (next : Int → Option Bool) : Int → Option Bool := fun i3 =>
    bif decide (i3 < (↑(List.length b.1) : Int)) then
      (bif decide (0 ≤ i3) then
        (bif decide (i3 < (↑(List.length b.1) : Int)) then
          (ob (F.spec_l1NameOk N (List.getD b.1 (Int.toNat i3) dFoe).1) false fun r =>
          bif !r then
            (some false)
          else
            (ob (F.spec_l1NameOk N (List.getD b.1 (Int.toNat i3) dFoe).2) false fun r_1 =>
            bif !r_1 then
              (some false)
            else
              (bif !Op.bytesLess (List.getD b.1 (Int.toNat i3) dFoe).1 (List.getD b.1 (Int.toNat i3) dFoe).2 then
                (some false)
              else
                (bif decide (i3 > 0) then
                  (bif decide (0 ≤ IntKind.i64.wrap (i3 - 1)) then
                    (bif decide (IntKind.i64.wrap (i3 - 1) < (↑(List.length b.1) : Int)) then
                      (bif !(Op.bytesLess (List.getD b.1 (IntKind.i64.wrap (i3 - 1)).toNat dFoe).1 (List.getD b.1 (Int.toNat i3) dFoe).1 || (List.getD b.1 (IntKind.i64.wrap (i3 - 1)).toNat dFoe).1 == (List.getD b.1 (Int.toNat i3) dFoe).1) then
                        (some false)
                      else
                        (bif decide (0 ≤ IntKind.i64.wrap (i3 - 1)) then
                          (bif decide (IntKind.i64.wrap (i3 - 1) < (↑(List.length b.1) : Int)) then
                            (bif (List.getD b.1 (IntKind.i64.wrap (i3 - 1)).toNat dFoe).1 == (List.getD b.1 (Int.toNat i3) dFoe).1 then
                              (bif decide (0 ≤ IntKind.i64.wrap (i3 - 1)) then
                                (bif decide (IntKind.i64.wrap (i3 - 1) < (↑(List.length b.1) : Int)) then
                                  (bif !Op.bytesLess (List.getD b.1 (IntKind.i64.wrap (i3 - 1)).toNat dFoe).2 (List.getD b.1 (Int.toNat i3) dFoe).2 then
                                    (some false)
                                  else
                                    (next (IntKind.i64.wrap (i3 + 1)))) else none) else none)
                            else
                              (next (IntKind.i64.wrap (i3 + 1)))) else none) else none)) else none) else none)
                else
                  (next (IntKind.i64.wrap (i3 + 1))))))) else none) else none)
    else
      (some true)
def spec_l2FoesOk_0 (N : Nat) (b : Book) : Nat → Int → Option Bool := lp (fun _ => none) fun next => spec_l2FoesOk_0r N b next
def spec_l2FoesOkb (N : Nat) (I0 : Book → Nat → Int → Option Bool) (b : Book) : Option Bool :=
  bif decide ((↑(List.length b.1) : Int) > 12) then
    (some false)
  else
    (I0 b N 0)
def spec_l2FoesOk (N : Nat) (b : Book) : Option Bool := spec_l2FoesOkb N (spec_l2FoesOk_0 N) b
def spec_l1NamesOk_0r (N : Nat) (list : List Txt) (next : Int → Option Bool) : Int → Option Bool := fun i5 =>
    bif decide (i5 < (↑list.length : Int)) then
      (bif decide (0 ≤ i5) then
        (bif decide (i5 < (↑list.length : Int)) then
          (ob (F.spec_l1NameOk N (list.getD (Int.toNat i5) [])) false fun r =>
          bif !r then
            (some false)
          else
            (bif decide (i5 > 0) then
              (bif decide (0 ≤ IntKind.i64.wrap (i5 - 1)) then
                (bif decide (IntKind.i64.wrap (i5 - 1) < (↑list.length : Int)) then
                  (bif decide (0 ≤ i5) then
                    (bif decide (i5 < (↑list.length : Int)) then
                      (bif !Op.bytesLess (list.getD (IntKind.i64.wrap (i5 - 1)).toNat []) (list.getD (Int.toNat i5) []) then
                        (some false)
                      else
                        (next (IntKind.i64.wrap (i5 + 1)))) else none) else none) else none) else none)
            else
              (next (IntKind.i64.wrap (i5 + 1))))) else none) else none)
    else
      (some true)
def spec_l1NamesOk_0 (N : Nat) (list : List Txt) : Nat → Int → Option Bool := lp (fun _ => none) fun next => spec_l1NamesOk_0r N list next
def spec_l1NamesOkb (N : Nat) (I0 : (List Txt) → Nat → Int → Option Bool) (list : List Txt) (most : Int) : Option Bool :=
  bif decide ((↑list.length : Int) > most) then
    (some false)
  else
    (I0 list N 0)
def spec_l1NamesOk (N : Nat) (list : List Txt) (most : Int) : Option Bool := spec_l1NamesOkb N (spec_l1NamesOk_0 N) list most
def spec_l2Foes_0r (N : Nat) (b : Book) (x : Txt) (y : Txt) (next : Int → Option Bool) : Int → Option Bool := fun i7 =>
    bif decide (i7 < (↑(List.length b.1) : Int)) then
      (bif decide (0 ≤ i7) then
        (bif decide (i7 < (↑(List.length b.1) : Int)) then
          (bif (List.getD b.1 (Int.toNat i7) dFoe).1 == x then
            (bif decide (0 ≤ i7) then
              (bif decide (i7 < (↑(List.length b.1) : Int)) then
                (bif (List.getD b.1 (Int.toNat i7) dFoe).2 == y then
                  (some true)
                else
                  (bif decide (0 ≤ i7) then
                    (bif decide (i7 < (↑(List.length b.1) : Int)) then
                      (bif (List.getD b.1 (Int.toNat i7) dFoe).1 == y then
                        (bif decide (0 ≤ i7) then
                          (bif decide (i7 < (↑(List.length b.1) : Int)) then
                            (bif (List.getD b.1 (Int.toNat i7) dFoe).2 == x then
                              (some true)
                            else
                              (next (IntKind.i64.wrap (i7 + 1)))) else none) else none)
                      else
                        (next (IntKind.i64.wrap (i7 + 1)))) else none) else none)) else none) else none)
          else
            (bif decide (0 ≤ i7) then
              (bif decide (i7 < (↑(List.length b.1) : Int)) then
                (bif (List.getD b.1 (Int.toNat i7) dFoe).1 == y then
                  (bif decide (0 ≤ i7) then
                    (bif decide (i7 < (↑(List.length b.1) : Int)) then
                      (bif (List.getD b.1 (Int.toNat i7) dFoe).2 == x then
                        (some true)
                      else
                        (next (IntKind.i64.wrap (i7 + 1)))) else none) else none)
                else
                  (next (IntKind.i64.wrap (i7 + 1)))) else none) else none)) else none) else none)
    else
      (some false)
def spec_l2Foes_0 (N : Nat) (b : Book) (x : Txt) (y : Txt) : Nat → Int → Option Bool := lp (fun _ => none) fun next => spec_l2Foes_0r N b x y next
def spec_l2Foesb (N : Nat) (I0 : Book → Txt → Txt → Nat → Int → Option Bool) (b : Book) (x : Txt) (y : Txt) : Option Bool :=
  I0 b x y N 0
def spec_l2Foes (N : Nat) (b : Book) (x : Txt) (y : Txt) : Option Bool := spec_l2Foesb N (spec_l2Foes_0 N) b x y
def spec_l2Clash_0r (N : Nat) (b : Book) (stuff : Txt) (may : List Txt) (next : Int → Option Bool) : Int → Option Bool := fun i7 =>
    bif decide (i7 < (↑may.length : Int)) then
      (bif decide (0 ≤ i7) then
        (bif decide (i7 < (↑may.length : Int)) then
          (ob (F.spec_l2Foes N b stuff (may.getD (Int.toNat i7) [])) false fun r =>
          bif r then
            (some true)
          else
            (next (IntKind.i64.wrap (i7 + 1)))) else none) else none)
    else
      (some false)
def spec_l2Clash_0 (N : Nat) (b : Book) (stuff : Txt) (may : List Txt) : Nat → Int → Option Bool := lp (fun _ => none) fun next => spec_l2Clash_0r N b stuff may next
def spec_l2Clashb (N : Nat) (I0 : Book → Txt → (List Txt) → Nat → Int → Option Bool) (b : Book) (stuff : Txt) (may : List Txt) : Option Bool :=
  I0 b stuff may N 0
def spec_l2Clash (N : Nat) (b : Book) (stuff : Txt) (may : List Txt) : Option Bool := spec_l2Clashb N (spec_l2Clash_0 N) b stuff may
def spec_l2SpotOk_0r (N : Nat) (b : Book) (s : Spot) (next : Int → Option Bool) : Int → Option Bool := fun i5 =>
    bif decide (i5 < (↑(List.length s.2.2.2.2) : Int)) then
      (bif decide (0 ≤ i5) then
        (bif decide (i5 < (↑(List.length s.2.2.2.2) : Int)) then
          (ob (F.spec_l2Clash N b (List.getD s.2.2.2.2 (Int.toNat i5) []) s.2.2.2.2) false fun r_4 =>
          bif r_4 then
            (some false)
          else
            (next (IntKind.i64.wrap (i5 + 1)))) else none) else none)
    else
      (some true)
def spec_l2SpotOk_0 (N : Nat) (b : Book) (s : Spot) : Nat → Int → Option Bool := lp (fun _ => none) fun next => spec_l2SpotOk_0r N b s next
def spec_l2SpotOkb (N : Nat) (I0 : Book → Spot → Nat → Int → Option Bool) (b : Book) (s : Spot) : Option Bool :=
  ob (F.spec_l1NameOk N s.1) false fun r =>
  bif !r then
    (some false)
  else
    (ob (F.spec_l1In N s.2.1 0 1000) false fun r_1 =>
    bif !r_1 then
      (some false)
    else
      (ob (F.spec_l1In N s.2.2.1 0 s.2.2.2.1) false fun r_2 =>
      bif !r_2 then
        (some false)
      else
        (bif decide (s.2.2.2.1 > s.2.1) then
          (some false)
        else
          (ob (F.spec_l1NamesOk N s.2.2.2.2 8) false fun r_3 =>
          bif !r_3 then
            (some false)
          else
            (I0 b s N 0)))))
def spec_l2SpotOk (N : Nat) (b : Book) (s : Spot) : Option Bool := spec_l2SpotOkb N (spec_l2SpotOk_0 N) b s
def spec_l1UsesOk_0r (N : Nat) (w : Want) (next : Int → Option Bool) : Int → Option Bool := fun i3 =>
    bif decide (i3 < (↑(List.length w.2.2.2.1) : Int)) then
      (bif decide (0 ≤ i3) then
        (bif decide (i3 < (↑(List.length w.2.2.2.1) : Int)) then
          (ob (F.spec_l1NameOk N (List.getD w.2.2.2.1 (Int.toNat i3) dUse).1) false fun r =>
          bif !r then
            (some false)
          else
            (bif decide (i3 > 0) then
              (bif decide (0 ≤ IntKind.i64.wrap (i3 - 1)) then
                (bif decide (IntKind.i64.wrap (i3 - 1) < (↑(List.length w.2.2.2.1) : Int)) then
                  (bif !Op.bytesLess (List.getD w.2.2.2.1 (IntKind.i64.wrap (i3 - 1)).toNat dUse).1 (List.getD w.2.2.2.1 (Int.toNat i3) dUse).1 then
                    (some false)
                  else
                    (ob (F.spec_l1In N (List.getD w.2.2.2.1 (Int.toNat i3) dUse).2.1 1 3) false fun r_1 =>
                    bif !r_1 then
                      (some false)
                    else
                      (bif (List.getD w.2.2.2.1 (Int.toNat i3) dUse).2.1 == 3 then
                        (bif (List.getD w.2.2.2.1 (Int.toNat i3) dUse).2.2 != 0 then
                          (some false)
                        else
                          (bif (List.getD w.2.2.2.1 (Int.toNat i3) dUse).2.1 != 3 then
                            (bif w.2.1 != 1 then
                              (some false)
                            else
                              (ob (F.spec_l1In N (List.getD w.2.2.2.1 (Int.toNat i3) dUse).2.2 1 1000) false fun r_2 =>
                              bif !r_2 then
                                (some false)
                              else
                                (next (IntKind.i64.wrap (i3 + 1)))))
                          else
                            (next (IntKind.i64.wrap (i3 + 1)))))
                      else
                        (bif (List.getD w.2.2.2.1 (Int.toNat i3) dUse).2.1 != 3 then
                          (bif w.2.1 != 1 then
                            (some false)
                          else
                            (ob (F.spec_l1In N (List.getD w.2.2.2.1 (Int.toNat i3) dUse).2.2 1 1000) false fun r_3 =>
                            bif !r_3 then
                              (some false)
                            else
                              (next (IntKind.i64.wrap (i3 + 1)))))
                        else
                          (next (IntKind.i64.wrap (i3 + 1))))))) else none) else none)
            else
              (ob (F.spec_l1In N (List.getD w.2.2.2.1 (Int.toNat i3) dUse).2.1 1 3) false fun r_4 =>
              bif !r_4 then
                (some false)
              else
                (bif (List.getD w.2.2.2.1 (Int.toNat i3) dUse).2.1 == 3 then
                  (bif (List.getD w.2.2.2.1 (Int.toNat i3) dUse).2.2 != 0 then
                    (some false)
                  else
                    (bif (List.getD w.2.2.2.1 (Int.toNat i3) dUse).2.1 != 3 then
                      (bif w.2.1 != 1 then
                        (some false)
                      else
                        (ob (F.spec_l1In N (List.getD w.2.2.2.1 (Int.toNat i3) dUse).2.2 1 1000) false fun r_5 =>
                        bif !r_5 then
                          (some false)
                        else
                          (next (IntKind.i64.wrap (i3 + 1)))))
                    else
                      (next (IntKind.i64.wrap (i3 + 1)))))
                else
                  (bif (List.getD w.2.2.2.1 (Int.toNat i3) dUse).2.1 != 3 then
                    (bif w.2.1 != 1 then
                      (some false)
                    else
                      (ob (F.spec_l1In N (List.getD w.2.2.2.1 (Int.toNat i3) dUse).2.2 1 1000) false fun r_6 =>
                      bif !r_6 then
                        (some false)
                      else
                        (next (IntKind.i64.wrap (i3 + 1)))))
                  else
                    (next (IntKind.i64.wrap (i3 + 1)))))))) else none) else none)
    else
      (some true)
def spec_l1UsesOk_0 (N : Nat) (w : Want) : Nat → Int → Option Bool := lp (fun _ => none) fun next => spec_l1UsesOk_0r N w next
def spec_l1UsesOkb (N : Nat) (I0 : Want → Nat → Int → Option Bool) (w : Want) : Option Bool :=
  bif decide ((↑(List.length w.2.2.2.1) : Int) > 8) then
    (some false)
  else
    (I0 w N 0)
def spec_l1UsesOk (N : Nat) (w : Want) : Option Bool := spec_l1UsesOkb N (spec_l1UsesOk_0 N) w
def spec_l1Has_0r (N : Nat) (list : List Txt) (name : Txt) (next : Int → Option Bool) : Int → Option Bool := fun i5 =>
    bif decide (i5 < (↑list.length : Int)) then
      (bif decide (0 ≤ i5) then
        (bif decide (i5 < (↑list.length : Int)) then
          (bif list.getD (Int.toNat i5) [] == name then
            (some true)
          else
            (next (IntKind.i64.wrap (i5 + 1)))) else none) else none)
    else
      (some false)
def spec_l1Has_0 (N : Nat) (list : List Txt) (name : Txt) : Nat → Int → Option Bool := lp (fun _ => none) fun next => spec_l1Has_0r N list name next
def spec_l1Hasb (N : Nat) (I0 : (List Txt) → Txt → Nat → Int → Option Bool) (list : List Txt) (name : Txt) : Option Bool :=
  I0 list name N 0
def spec_l1Has (N : Nat) (list : List Txt) (name : Txt) : Option Bool := spec_l1Hasb N (spec_l1Has_0 N) list name
def spec_l1Share_0r (N : Nat) (a : List Txt) (b : List Txt) (next : Int → Option Bool) : Int → Option Bool := fun i5 =>
    bif decide (i5 < (↑a.length : Int)) then
      (bif decide (0 ≤ i5) then
        (bif decide (i5 < (↑a.length : Int)) then
          (ob (F.spec_l1Has N b (a.getD (Int.toNat i5) [])) false fun r =>
          bif r then
            (some true)
          else
            (next (IntKind.i64.wrap (i5 + 1)))) else none) else none)
    else
      (some false)
def spec_l1Share_0 (N : Nat) (a : List Txt) (b : List Txt) : Nat → Int → Option Bool := lp (fun _ => none) fun next => spec_l1Share_0r N a b next
def spec_l1Shareb (N : Nat) (I0 : (List Txt) → (List Txt) → Nat → Int → Option Bool) (a : List Txt) (b : List Txt) : Option Bool :=
  I0 a b N 0
def spec_l1Share (N : Nat) (a : List Txt) (b : List Txt) : Option Bool := spec_l1Shareb N (spec_l1Share_0 N) a b
def spec_ClaimWantOk (N : Nat) (w : Want) : Option Bool :=
  ob (F.spec_l1In N w.1 1 1000000) false fun r =>
  bif !r then
    (some false)
  else
    (ob (F.spec_l1In N w.2.1 1 3) false fun r_1 =>
    bif !r_1 then
      (some false)
    else
      (ob (F.spec_l1UsesOk N w) false fun r_2 =>
      bif !r_2 then
        (some false)
      else
        (ob (F.spec_l1NamesOk N w.2.2.2.2.1 12) false fun r_3 =>
        bif !r_3 then
          (some false)
        else
          (ob (F.spec_l1NamesOk N w.2.2.2.2.2 12) false fun r_4 =>
          bif !r_4 then
            (some false)
          else
            (ob (F.spec_l1Share N w.2.2.2.2.1 w.2.2.2.2.2) false fun r_5 =>
            bif r_5 then
              (some false)
            else
              (bif IntKind.i64.wrap (IntKind.i64.wrap ((↑(List.length w.2.2.2.1) : Int) + (↑(List.length w.2.2.2.2.1) : Int)) + (↑(List.length w.2.2.2.2.2) : Int)) == 0 then
                (some false)
              else
                (bif w.2.1 != 1 then
                  (bif decide ((↑(List.length w.2.2.2.2.1) : Int) > 0) then
                    (some false)
                  else
                    (ob (F.spec_l1NamesOk N w.2.2.1 8) false fun r_6 =>
                    bif r_6 then
                      (some ((w.2.1 == 1) == decide ((↑(List.length w.2.2.1) : Int) > 0)))
                    else
                      (some false)))
                else
                  (ob (F.spec_l1NamesOk N w.2.2.1 8) false fun r_7 =>
                  bif r_7 then
                    (some ((w.2.1 == 1) == decide ((↑(List.length w.2.2.1) : Int) > 0)))
                  else
                    (some false)))))))))
def spec_l2Spot_0r (N : Nat) (b : Book) (name : Txt) (next : Int → Option Int) : Int → Option Int := fun i5 =>
    bif decide (i5 < (↑(List.length b.2.1) : Int)) then
      (bif decide (0 ≤ i5) then
        (bif decide (i5 < (↑(List.length b.2.1) : Int)) then
          (bif (List.getD b.2.1 (Int.toNat i5) dSpot).1 == name then
            (some i5)
          else
            (next (IntKind.i64.wrap (i5 + 1)))) else none) else none)
    else
      (some (-1))
def spec_l2Spot_0 (N : Nat) (b : Book) (name : Txt) : Nat → Int → Option Int := lp (fun _ => none) fun next => spec_l2Spot_0r N b name next
def spec_l2Spotb (N : Nat) (I0 : Book → Txt → Nat → Int → Option Int) (b : Book) (name : Txt) : Option Int :=
  I0 b name N 0
def spec_l2Spot (N : Nat) (b : Book) (name : Txt) : Option Int := spec_l2Spotb N (spec_l2Spot_0 N) b name
def spec_l2Knows_4r (N : Nat) (b : Book) (w : Want) (next : Int → Option Bool) : Int → Option Bool := fun i7 =>
    bif decide (i7 < (↑(List.length w.2.2.2.2.2) : Int)) then
      (bif decide (0 ≤ i7) then
        (bif decide (i7 < (↑(List.length w.2.2.2.2.2) : Int)) then
          (ob (F.spec_l1Has N b.2.2.1 (List.getD w.2.2.2.2.2 (Int.toNat i7) [])) false fun r_2 =>
          bif !r_2 then
            (some false)
          else
            (next (IntKind.i64.wrap (i7 + 1)))) else none) else none)
    else
      (some true)
def spec_l2Knows_4 (N : Nat) (b : Book) (w : Want) : Nat → Int → Option Bool := lp (fun _ => none) fun next => spec_l2Knows_4r N b w next
def spec_l2Knows_2r (N : Nat) (I0 : Book → Want → Nat → Int → Option Bool) (b : Book) (w : Want) (next : Int → Option Bool) : Int → Option Bool := fun i6 =>
    bif decide (i6 < (↑(List.length w.2.2.2.2.1) : Int)) then
      (bif decide (0 ≤ i6) then
        (bif decide (i6 < (↑(List.length w.2.2.2.2.1) : Int)) then
          (ob (F.spec_l1Has N b.2.2.1 (List.getD w.2.2.2.2.1 (Int.toNat i6) [])) false fun r_1 =>
          bif !r_1 then
            (some false)
          else
            (next (IntKind.i64.wrap (i6 + 1)))) else none) else none)
    else
      (I0 b w N 0)
def spec_l2Knows_2 (N : Nat) (b : Book) (w : Want) : Nat → Int → Option Bool := lp (fun _ => none) fun next => spec_l2Knows_2r N (spec_l2Knows_4 N) b w next
def spec_l2Knows_0r (N : Nat) (I1 : Book → Want → Nat → Int → Option Bool) (b : Book) (w : Want) (next : Int → Option Bool) : Int → Option Bool := fun i5 =>
    bif decide (i5 < (↑(List.length w.2.2.2.1) : Int)) then
      (bif decide (0 ≤ i5) then
        (bif decide (i5 < (↑(List.length w.2.2.2.1) : Int)) then
          (ob (F.spec_l2Spot N b (List.getD w.2.2.2.1 (Int.toNat i5) dUse).1) (Int.ofNat 0) fun r =>
          bif decide (r < 0) then
            (some false)
          else
            (next (IntKind.i64.wrap (i5 + 1)))) else none) else none)
    else
      (I1 b w N 0)
def spec_l2Knows_0 (N : Nat) (b : Book) (w : Want) : Nat → Int → Option Bool := lp (fun _ => none) fun next => spec_l2Knows_0r N (spec_l2Knows_2 N) b w next
def spec_l2Knowsb (N : Nat) (I2 : Book → Want → Nat → Int → Option Bool) (b : Book) (w : Want) : Option Bool :=
  I2 b w N 0
def spec_l2Knows (N : Nat) (b : Book) (w : Want) : Option Bool := spec_l2Knowsb N (spec_l2Knows_0 N) b w
def spec_l1All_0r (N : Nat) (a : List Txt) (b : List Txt) (next : Int → Option Bool) : Int → Option Bool := fun i5 =>
    bif decide (i5 < (↑a.length : Int)) then
      (bif decide (0 ≤ i5) then
        (bif decide (i5 < (↑a.length : Int)) then
          (ob (F.spec_l1Has N b (a.getD (Int.toNat i5) [])) false fun r =>
          bif !r then
            (some false)
          else
            (next (IntKind.i64.wrap (i5 + 1)))) else none) else none)
    else
      (some true)
def spec_l1All_0 (N : Nat) (a : List Txt) (b : List Txt) : Nat → Int → Option Bool := lp (fun _ => none) fun next => spec_l1All_0r N a b next
def spec_l1Allb (N : Nat) (I0 : (List Txt) → (List Txt) → Nat → Int → Option Bool) (a : List Txt) (b : List Txt) : Option Bool :=
  I0 a b N 0
def spec_l1All (N : Nat) (a : List Txt) (b : List Txt) : Option Bool := spec_l1Allb N (spec_l1All_0 N) a b
def spec_l2UseOk (N : Nat) (s : Spot) (w : Want) (u : Use) : Option Bool :=
  bif w.2.1 == 2 then
    (bif decide (s.2.2.2.1 > 0) then
      (some false)
    else
      (bif w.2.1 == 1 then
        (bif u.2.1 != 2 then
          (ob (F.spec_l1All N s.2.2.2.2 w.2.2.1) false fun r =>
          bif !r then
            (some false)
          else
            (bif w.2.1 == 1 then
              (bif u.2.1 != 1 then
                (ob (F.spec_l1All N w.2.2.1 s.2.2.2.2) false fun r_1 =>
                bif !r_1 then
                  (some false)
                else
                  (some (decide (IntKind.i64.wrap (s.2.2.1 + u.2.2) ≤ s.2.2.2.1))))
              else
                (some (decide (IntKind.i64.wrap (s.2.2.1 + u.2.2) ≤ s.2.2.2.1))))
            else
              (some (decide (IntKind.i64.wrap (s.2.2.1 + u.2.2) ≤ s.2.2.2.1)))))
        else
          (bif w.2.1 == 1 then
            (bif u.2.1 != 1 then
              (ob (F.spec_l1All N w.2.2.1 s.2.2.2.2) false fun r_2 =>
              bif !r_2 then
                (some false)
              else
                (some (decide (IntKind.i64.wrap (s.2.2.1 + u.2.2) ≤ s.2.2.2.1))))
            else
              (some (decide (IntKind.i64.wrap (s.2.2.1 + u.2.2) ≤ s.2.2.2.1))))
          else
            (some (decide (IntKind.i64.wrap (s.2.2.1 + u.2.2) ≤ s.2.2.2.1)))))
      else
        (bif w.2.1 == 1 then
          (bif u.2.1 != 1 then
            (ob (F.spec_l1All N w.2.2.1 s.2.2.2.2) false fun r_3 =>
            bif !r_3 then
              (some false)
            else
              (some (decide (IntKind.i64.wrap (s.2.2.1 + u.2.2) ≤ s.2.2.2.1))))
          else
            (some (decide (IntKind.i64.wrap (s.2.2.1 + u.2.2) ≤ s.2.2.2.1))))
        else
          (some (decide (IntKind.i64.wrap (s.2.2.1 + u.2.2) ≤ s.2.2.2.1))))))
  else
    (bif w.2.1 == 1 then
      (bif u.2.1 != 2 then
        (ob (F.spec_l1All N s.2.2.2.2 w.2.2.1) false fun r_4 =>
        bif !r_4 then
          (some false)
        else
          (bif w.2.1 == 1 then
            (bif u.2.1 != 1 then
              (ob (F.spec_l1All N w.2.2.1 s.2.2.2.2) false fun r_5 =>
              bif !r_5 then
                (some false)
              else
                (some (decide (IntKind.i64.wrap (s.2.2.1 + u.2.2) ≤ s.2.2.2.1))))
            else
              (some (decide (IntKind.i64.wrap (s.2.2.1 + u.2.2) ≤ s.2.2.2.1))))
          else
            (some (decide (IntKind.i64.wrap (s.2.2.1 + u.2.2) ≤ s.2.2.2.1)))))
      else
        (bif w.2.1 == 1 then
          (bif u.2.1 != 1 then
            (ob (F.spec_l1All N w.2.2.1 s.2.2.2.2) false fun r_6 =>
            bif !r_6 then
              (some false)
            else
              (some (decide (IntKind.i64.wrap (s.2.2.1 + u.2.2) ≤ s.2.2.2.1))))
          else
            (some (decide (IntKind.i64.wrap (s.2.2.1 + u.2.2) ≤ s.2.2.2.1))))
        else
          (some (decide (IntKind.i64.wrap (s.2.2.1 + u.2.2) ≤ s.2.2.2.1)))))
    else
      (bif w.2.1 == 1 then
        (bif u.2.1 != 1 then
          (ob (F.spec_l1All N w.2.2.1 s.2.2.2.2) false fun r_7 =>
          bif !r_7 then
            (some false)
          else
            (some (decide (IntKind.i64.wrap (s.2.2.1 + u.2.2) ≤ s.2.2.2.1))))
        else
          (some (decide (IntKind.i64.wrap (s.2.2.1 + u.2.2) ≤ s.2.2.2.1))))
      else
        (some (decide (IntKind.i64.wrap (s.2.2.1 + u.2.2) ≤ s.2.2.2.1)))))
def spec_l2PartOk_0r (N : Nat) (b : Book) (p : Part) (next : Int → Option Bool) : Int → Option Bool := fun i5 =>
    bif decide (i5 < (↑(List.length p.1.2.2.2.1) : Int)) then
      (bif decide (0 ≤ i5) then
        (bif decide (i5 < (↑(List.length p.1.2.2.2.1) : Int)) then
          (ob (F.spec_l2Spot N b (List.getD p.1.2.2.2.1 (Int.toNat i5) dUse).1) (Int.ofNat 0) fun r_2 =>
          bif decide (0 ≤ r_2) then
            (bif decide (r_2 < (↑(List.length b.2.1) : Int)) then
              (bif decide (0 ≤ i5) then
                (bif decide (i5 < (↑(List.length p.1.2.2.2.1) : Int)) then
                  (ob (F.spec_l2UseOk N (List.getD b.2.1 (Int.toNat r_2) dSpot) p.1 (List.getD p.1.2.2.2.1 (Int.toNat i5) dUse)) false fun r_3 =>
                  bif !r_3 then
                    (some false)
                  else
                    (next (IntKind.i64.wrap (i5 + 1)))) else none) else none) else none) else none) else none) else none)
    else
      (some true)
def spec_l2PartOk_0 (N : Nat) (b : Book) (p : Part) : Nat → Int → Option Bool := lp (fun _ => none) fun next => spec_l2PartOk_0r N b p next
def spec_l2PartOkb (N : Nat) (I0 : Book → Part → Nat → Int → Option Bool) (b : Book) (p : Part) : Option Bool :=
  ob (F.spec_ClaimWantOk N p.1) false fun r =>
  bif !r then
    (some false)
  else
    (bif decide (p.1.1 > b.2.2.2.2) then
      (some false)
    else
      (ob (F.spec_l2Knows N b p.1) false fun r_1 =>
      bif !r_1 then
        (some false)
      else
        (I0 b p N 0)))
def spec_l2PartOk (N : Nat) (b : Book) (p : Part) : Option Bool := spec_l2PartOkb N (spec_l2PartOk_0 N) b p
def spec_l2Uses_0r (N : Nat) (w : Want) (next : Int → (List Txt) → Option (List Txt)) : Int → (List Txt) → Option (List Txt) := fun i4 out3a =>
    bif decide (i4 < (↑(List.length w.2.2.2.1) : Int)) then
      (bif decide (0 ≤ i4) then
        (bif decide (i4 < (↑(List.length w.2.2.2.1) : Int)) then
          (bif decide ((out3a.length + [(List.getD w.2.2.2.1 (Int.toNat i4) dUse).1].length) * 16 ≤ lim) then
            (next (IntKind.i64.wrap (i4 + 1)) (out3a ++ [(List.getD w.2.2.2.1 (Int.toNat i4) dUse).1])) else none) else none) else none)
    else
      (some out3a)
def spec_l2Uses_0 (N : Nat) (w : Want) : Nat → Int → (List Txt) → Option (List Txt) := lp (fun _ _ => none) fun next => spec_l2Uses_0r N w next
def spec_l2Usesb (N : Nat) (I0 : Want → Nat → Int → (List Txt) → Option (List Txt)) (w : Want) : Option (List Txt) :=
  I0 w N 0 []
def spec_l2Uses (N : Nat) (w : Want) : Option (List Txt) := spec_l2Usesb N (spec_l2Uses_0 N) w
def spec_l2Crosses (N : Nat) (a : Want) (b : Want) : Option Bool :=
  ob (F.spec_l1Share N a.2.2.2.2.1 b.2.2.2.2.1) false fun r =>
  bif r then
    (some true)
  else
    (ob (F.spec_l1Share N a.2.2.2.2.1 b.2.2.2.2.2) false fun r_1 =>
    bif r_1 then
      (some true)
    else
      (ob (F.spec_l1Share N a.2.2.2.2.2 b.2.2.2.2.1) false fun r_2 =>
      some r_2))
def spec_l2PartsOk_2r (N : Nat) (nx0 : Int → Option Bool) (b : Book) (i3 : Int) (w4c0 : Int) (w4c1 : Int) (w4c2 : List Txt) (w4c3 : List Use) (w4c4 : List Txt) (w4c5 : List Txt) (next : Int → Option Bool) : Int → Option Bool := fun k5 =>
    bif decide (k5 < i3) then
      (bif decide (0 ≤ k5) then
        (bif decide (k5 < (↑(List.length b.2.2.2.1) : Int)) then
          (ob (F.spec_l2Uses N (w4c0, w4c1, w4c2, w4c3, w4c4, w4c5)) [] fun r_1 =>
          ob (F.spec_l2Uses N (List.getD b.2.2.2.1 (Int.toNat k5) dPart).1) [] fun r_2 =>
          ob (F.spec_l1Share N r_1 r_2) false fun r_3 =>
          bif r_3 then
            (some false)
          else
            (ob (F.spec_l2Crosses N (w4c0, w4c1, w4c2, w4c3, w4c4, w4c5) (List.getD b.2.2.2.1 (Int.toNat k5) dPart).1) false fun r_4 =>
            bif r_4 then
              (some false)
            else
              (next (IntKind.i64.wrap (k5 + 1))))) else none) else none)
    else
      (nx0 (IntKind.i64.wrap (i3 + 1)))
def spec_l2PartsOk_2 (N : Nat) (nx0 : Int → Option Bool) (b : Book) (i3 : Int) (w4c0 : Int) (w4c1 : Int) (w4c2 : List Txt) (w4c3 : List Use) (w4c4 : List Txt) (w4c5 : List Txt) : Nat → Int → Option Bool := lp (fun _ => none) fun next => spec_l2PartsOk_2r N nx0 b i3 w4c0 w4c1 w4c2 w4c3 w4c4 w4c5 next
def spec_l2PartsOk_0r (N : Nat) (I0 : Int → Int → Int → (List Txt) → (List Use) → (List Txt) → (List Txt) → Nat → Int → Option Bool) (b : Book) (next : Int → Option Bool) : Int → Option Bool := fun i3 =>
    bif decide (i3 < (↑(List.length b.2.2.2.1) : Int)) then
      (bif decide (0 ≤ i3) then
        (bif decide (i3 < (↑(List.length b.2.2.2.1) : Int)) then
          (bif decide (0 ≤ i3) then
            (bif decide (i3 < (↑(List.length b.2.2.2.1) : Int)) then
              (ob (F.spec_l2PartOk N b (List.getD b.2.2.2.1 (Int.toNat i3) dPart)) false fun r =>
              bif !r then
                (some false)
              else
                (bif decide (i3 > 0) then
                  (bif decide (0 ≤ IntKind.i64.wrap (i3 - 1)) then
                    (bif decide (IntKind.i64.wrap (i3 - 1) < (↑(List.length b.2.2.2.1) : Int)) then
                      (bif decide ((List.getD b.2.2.2.1 (IntKind.i64.wrap (i3 - 1)).toNat dPart).1.1 ≥ (List.getD b.2.2.2.1 (Int.toNat i3) dPart).1.1) then
                        (some false)
                      else
                        (I0 i3 ((List.getD b.2.2.2.1 (Int.toNat i3) dPart).1.1) ((List.getD b.2.2.2.1 (Int.toNat i3) dPart).1.2.1) ((List.getD b.2.2.2.1 (Int.toNat i3) dPart).1.2.2.1) ((List.getD b.2.2.2.1 (Int.toNat i3) dPart).1.2.2.2.1) ((List.getD b.2.2.2.1 (Int.toNat i3) dPart).1.2.2.2.2.1) ((List.getD b.2.2.2.1 (Int.toNat i3) dPart).1.2.2.2.2.2) N 0)) else none) else none)
                else
                  (I0 i3 ((List.getD b.2.2.2.1 (Int.toNat i3) dPart).1.1) ((List.getD b.2.2.2.1 (Int.toNat i3) dPart).1.2.1) ((List.getD b.2.2.2.1 (Int.toNat i3) dPart).1.2.2.1) ((List.getD b.2.2.2.1 (Int.toNat i3) dPart).1.2.2.2.1) ((List.getD b.2.2.2.1 (Int.toNat i3) dPart).1.2.2.2.2.1) ((List.getD b.2.2.2.1 (Int.toNat i3) dPart).1.2.2.2.2.2) N 0))) else none) else none) else none) else none)
    else
      (some true)
def spec_l2PartsOk_0 (N : Nat) (b : Book) : Nat → Int → Option Bool := lp (fun _ => none) fun next => spec_l2PartsOk_0r N (spec_l2PartsOk_2 N next b) b next
def spec_l2PartsOkb (N : Nat) (I1 : Book → Nat → Int → Option Bool) (b : Book) : Option Bool :=
  bif decide ((↑(List.length b.2.2.2.1) : Int) > 6) then
    (some false)
  else
    (I1 b N 0)
def spec_l2PartsOk (N : Nat) (b : Book) : Option Bool := spec_l2PartsOkb N (spec_l2PartsOk_0 N) b
def spec_ClaimBookOk_0r (N : Nat) (b : Book) (next : Int → Option Bool) : Int → Option Bool := fun i3 =>
    bif decide (i3 < (↑(List.length b.2.1) : Int)) then
      (bif decide (0 ≤ i3) then
        (bif decide (i3 < (↑(List.length b.2.1) : Int)) then
          (ob (F.spec_l2SpotOk N b (List.getD b.2.1 (Int.toNat i3) dSpot)) false fun r_3 =>
          bif !r_3 then
            (some false)
          else
            (bif decide (i3 > 0) then
              (bif decide (0 ≤ IntKind.i64.wrap (i3 - 1)) then
                (bif decide (IntKind.i64.wrap (i3 - 1) < (↑(List.length b.2.1) : Int)) then
                  (bif decide (0 ≤ i3) then
                    (bif decide (i3 < (↑(List.length b.2.1) : Int)) then
                      (bif !Op.bytesLess (List.getD b.2.1 (IntKind.i64.wrap (i3 - 1)).toNat dSpot).1 (List.getD b.2.1 (Int.toNat i3) dSpot).1 then
                        (some false)
                      else
                        (next (IntKind.i64.wrap (i3 + 1)))) else none) else none) else none) else none)
            else
              (next (IntKind.i64.wrap (i3 + 1))))) else none) else none)
    else
      (ob (F.spec_l2PartsOk N b) false fun r_4 =>
      some r_4)
def spec_ClaimBookOk_0 (N : Nat) (b : Book) : Nat → Int → Option Bool := lp (fun _ => none) fun next => spec_ClaimBookOk_0r N b next
def spec_ClaimBookOkb (N : Nat) (I0 : Book → Nat → Int → Option Bool) (b : Book) : Option Bool :=
  ob (F.spec_l2FoesOk N b) false fun r =>
  bif !r then
    (some false)
  else
    (bif decide ((↑(List.length b.2.1) : Int) > 8) then
      (some false)
    else
      (ob (F.spec_l1NamesOk N b.2.2.1 12) false fun r_1 =>
      bif !r_1 then
        (some false)
      else
        (ob (F.spec_l1In N b.2.2.2.2 0 1000000) false fun r_2 =>
        bif !r_2 then
          (some false)
        else
          (I0 b N 0))))
def spec_ClaimBookOk (N : Nat) (b : Book) : Option Bool := spec_ClaimBookOkb N (spec_ClaimBookOk_0 N) b
def spec_ClaimShut_0r (N : Nat) (b : Book) (valve : Txt) (next : Int → (List Int) → Option (List Int)) : Int → (List Int) → Option (List Int) := fun i6 out5a =>
    bif decide (i6 < (↑(List.length b.2.2.2.1) : Int)) then
      (bif decide (0 ≤ i6) then
        (bif decide (i6 < (↑(List.length b.2.2.2.1) : Int)) then
          (ob (F.spec_l1Has N (List.getD b.2.2.2.1 (Int.toNat i6) dPart).1.2.2.2.2.2 valve) false fun r_1 =>
          bif r_1 then
            (bif decide (0 ≤ i6) then
              (bif decide (i6 < (↑(List.length b.2.2.2.1) : Int)) then
                (bif decide ((out5a.length + [(List.getD b.2.2.2.1 (Int.toNat i6) dPart).1.1].length) * 8 ≤ lim) then
                  (next (IntKind.i64.wrap (i6 + 1)) (out5a ++ [(List.getD b.2.2.2.1 (Int.toNat i6) dPart).1.1])) else none) else none) else none)
          else
            (next (IntKind.i64.wrap (i6 + 1)) out5a)) else none) else none)
    else
      (some out5a)
def spec_ClaimShut_0 (N : Nat) (b : Book) (valve : Txt) : Nat → Int → (List Int) → Option (List Int) := lp (fun _ _ => none) fun next => spec_ClaimShut_0r N b valve next
def spec_ClaimShutb (N : Nat) (I0 : Book → Txt → Nat → Int → (List Int) → Option (List Int)) (b : Book) (valve : Txt) : Option (List Int) :=
  ob (F.spec_ClaimBookOk N b) false fun r =>
  bif !r then
    (some [])
  else
    (I0 b valve N 0 [])
def spec_ClaimShut (N : Nat) (b : Book) (valve : Txt) : Option (List Int) := spec_ClaimShutb N (spec_ClaimShut_0 N) b valve
def impl_in (N : Nat) (n : Int) (low : Int) (high : Int) : Option Bool :=
  bif decide (n ≥ low) then
    (some (decide (n ≤ high)))
  else
    (some false)
def impl_name_0r (N : Nat) (s : Txt) (next : Int → Option Bool) : Int → Option Bool := fun i3 =>
    bif decide (i3 < (↑s.length : Int)) then
      (bif decide (0 ≤ i3) then
        (bif decide (i3 < (↑s.length : Int)) then
          (bif decide ((↑(s.getD (Int.toNat i3) 0).toNat : Int) ≥ 97) then
            (bif decide ((↑(s.getD (Int.toNat i3) 0).toNat : Int) ≤ 122) then
              (next (IntKind.i64.wrap (i3 + 1)))
            else
              (bif decide ((↑(s.getD (Int.toNat i3) 0).toNat : Int) ≥ 48) then
                (bif decide ((↑(s.getD (Int.toNat i3) 0).toNat : Int) ≤ 57) then
                  (next (IntKind.i64.wrap (i3 + 1)))
                else
                  (bif !(↑(s.getD (Int.toNat i3) 0).toNat : Int) == 45 then
                    (some false)
                  else
                    (next (IntKind.i64.wrap (i3 + 1)))))
              else
                (bif !(↑(s.getD (Int.toNat i3) 0).toNat : Int) == 45 then
                  (some false)
                else
                  (next (IntKind.i64.wrap (i3 + 1))))))
          else
            (bif decide ((↑(s.getD (Int.toNat i3) 0).toNat : Int) ≥ 48) then
              (bif decide ((↑(s.getD (Int.toNat i3) 0).toNat : Int) ≤ 57) then
                (next (IntKind.i64.wrap (i3 + 1)))
              else
                (bif !(↑(s.getD (Int.toNat i3) 0).toNat : Int) == 45 then
                  (some false)
                else
                  (next (IntKind.i64.wrap (i3 + 1)))))
            else
              (bif !(↑(s.getD (Int.toNat i3) 0).toNat : Int) == 45 then
                (some false)
              else
                (next (IntKind.i64.wrap (i3 + 1)))))) else none) else none)
    else
      (some true)
def impl_name_0 (N : Nat) (s : Txt) : Nat → Int → Option Bool := lp (fun _ => none) fun next => impl_name_0r N s next
def impl_nameb (N : Nat) (I0 : Txt → Nat → Int → Option Bool) (s : Txt) : Option Bool :=
  ob (F.impl_in N (↑s.length : Int) 1 8) false fun r =>
  bif !r then
    (some false)
  else
    (I0 s N 0)
def impl_name (N : Nat) (s : Txt) : Option Bool := impl_nameb N (impl_name_0 N) s
def impl_names_0r (N : Nat) (l : List Txt) (t12 : Int) (next : Int → Option Bool) : Int → Option Bool := fun t13 =>
    bif decide (t13 < t12) then
      (bif decide (0 ≤ t13) then
        (bif decide (t13 < (↑l.length : Int)) then
          (ob (F.impl_name N (l.getD (Int.toNat t13) [])) false fun r =>
          bif !r then
            (some false)
          else
            (bif decide (t13 > 0) then
              (bif decide (0 ≤ IntKind.i64.wrap (t13 - 1)) then
                (bif decide (IntKind.i64.wrap (t13 - 1) < (↑l.length : Int)) then
                  (bif !Op.bytesLess (l.getD (IntKind.i64.wrap (t13 - 1)).toNat []) (l.getD (Int.toNat t13) []) then
                    (some false)
                  else
                    (next (IntKind.i64.wrap (t13 + 1)))) else none) else none)
            else
              (next (IntKind.i64.wrap (t13 + 1))))) else none) else none)
    else
      (some true)
def impl_names_0 (N : Nat) (l : List Txt) (t12 : Int) : Nat → Int → Option Bool := lp (fun _ => none) fun next => impl_names_0r N l t12 next
def impl_namesb (N : Nat) (I0 : (List Txt) → Int → Nat → Int → Option Bool) (l : List Txt) (most : Int) : Option Bool :=
  bif decide ((↑l.length : Int) > most) then
    (some false)
  else
    (I0 l (↑l.length : Int) N 0)
def impl_names (N : Nat) (l : List Txt) (most : Int) : Option Bool := impl_namesb N (impl_names_0 N) l most
def impl_ClaimFoe_ahead (N : Nat) (f : Foe) (g : Foe) : Option Bool :=
  bif Op.bytesLess f.1 g.1 then
    (some true)
  else
    (bif f.1 == g.1 then
      (some (Op.bytesLess f.2 g.2))
    else
      (some false))
def slices_Index_string_0r (N : Nat) (s : List Txt) (v : Txt) (t7 : Int) (next : Int → Option Int) : Int → Option Int := fun t8 =>
    bif decide (t8 < t7) then
      (bif decide (0 ≤ t8) then
        (bif decide (t8 < (↑s.length : Int)) then
          (bif v == s.getD (Int.toNat t8) [] then
            (some t8)
          else
            (next (IntKind.i64.wrap (t8 + 1)))) else none) else none)
    else
      (some (-1))
def slices_Index_string_0 (N : Nat) (s : List Txt) (v : Txt) (t7 : Int) : Nat → Int → Option Int := lp (fun _ => none) fun next => slices_Index_string_0r N s v t7 next
def slices_Index_stringb (N : Nat) (I0 : (List Txt) → Txt → Int → Nat → Int → Option Int) (s : List Txt) (v : Txt) : Option Int :=
  I0 s v (↑s.length : Int) N 0
def slices_Index_string (N : Nat) (s : List Txt) (v : Txt) : Option Int := slices_Index_stringb N (slices_Index_string_0 N) s v
def slices_Contains_string (N : Nat) (s : List Txt) (v : Txt) : Option Bool :=
  ob (F.slices_Index_string N s v) (Int.ofNat 0) fun r =>
  some (decide (r ≥ 0))
def impl_ClaimBook_foes_0r (N : Nat) (b : Book) (x : List Txt) (y : List Txt) (t11 : Int) (next : Int → Option Bool) : Int → Option Bool := fun t12 =>
    bif decide (t12 < t11) then
      (bif decide (0 ≤ t12) then
        (bif decide (t12 < (↑(List.length b.1) : Int)) then
          (ob (F.slices_Contains_string N x (List.getD b.1 (Int.toNat t12) dFoe).1) false fun r =>
          bif r then
            (ob (F.slices_Contains_string N y (List.getD b.1 (Int.toNat t12) dFoe).2) false fun r_1 =>
            bif r_1 then
              (some true)
            else
              (ob (F.slices_Contains_string N x (List.getD b.1 (Int.toNat t12) dFoe).2) false fun r_2 =>
              bif r_2 then
                (ob (F.slices_Contains_string N y (List.getD b.1 (Int.toNat t12) dFoe).1) false fun r_3 =>
                bif r_3 then
                  (some true)
                else
                  (next (IntKind.i64.wrap (t12 + 1))))
              else
                (next (IntKind.i64.wrap (t12 + 1)))))
          else
            (ob (F.slices_Contains_string N x (List.getD b.1 (Int.toNat t12) dFoe).2) false fun r_4 =>
            bif r_4 then
              (ob (F.slices_Contains_string N y (List.getD b.1 (Int.toNat t12) dFoe).1) false fun r_5 =>
              bif r_5 then
                (some true)
              else
                (next (IntKind.i64.wrap (t12 + 1))))
            else
              (next (IntKind.i64.wrap (t12 + 1))))) else none) else none)
    else
      (some false)
def impl_ClaimBook_foes_0 (N : Nat) (b : Book) (x : List Txt) (y : List Txt) (t11 : Int) : Nat → Int → Option Bool := lp (fun _ => none) fun next => impl_ClaimBook_foes_0r N b x y t11 next
def impl_ClaimBook_foesb (N : Nat) (I0 : Book → (List Txt) → (List Txt) → Int → Nat → Int → Option Bool) (b : Book) (x : List Txt) (y : List Txt) : Option Bool :=
  I0 b x y (↑(List.length b.1) : Int) N 0
def impl_ClaimBook_foes (N : Nat) (b : Book) (x : List Txt) (y : List Txt) : Option Bool := impl_ClaimBook_foesb N (impl_ClaimBook_foes_0 N) b x y
def impl_common_c1 (N : Nat) (s : Txt) (p1 : List Txt) : Option (Bool × List Txt) :=
  ob (F.slices_Contains_string N p1 s) false fun r =>
  some (r, p1)
def slices_IndexFunc_string__impl_common_c1_0r (N : Nat) (s : List Txt) (t7 : Int) (next : Int → (List Txt) → Option (Int × List Txt)) : Int → (List Txt) → Option (Int × List Txt) := fun t8 fpc0 =>
    bif decide (t8 < t7) then
      (bif decide (0 ≤ t8) then
        (bif decide (t8 < (↑s.length : Int)) then
          (ob (F.impl_common_c1 N (s.getD (Int.toNat t8) []) fpc0) (false, []) fun r_1 =>
          bif r_1.1 then
            (some (t8, r_1.2))
          else
            (next (IntKind.i64.wrap (t8 + 1)) r_1.2)) else none) else none)
    else
      (some (-1, fpc0))
def slices_IndexFunc_string__impl_common_c1_0 (N : Nat) (s : List Txt) (t7 : Int) : Nat → Int → (List Txt) → Option (Int × List Txt) := lp (fun _ _ => none) fun next => slices_IndexFunc_string__impl_common_c1_0r N s t7 next
def slices_IndexFunc_string__impl_common_c1b (N : Nat) (I0 : (List Txt) → Int → Nat → Int → (List Txt) → Option (Int × List Txt)) (s : List Txt) (f : List Txt) : Option (Int × List Txt) :=
  I0 s (↑s.length : Int) N 0 f
def slices_IndexFunc_string__impl_common_c1 (N : Nat) (s : List Txt) (f : List Txt) : Option (Int × List Txt) := slices_IndexFunc_string__impl_common_c1b N (slices_IndexFunc_string__impl_common_c1_0 N) s f
def slices_ContainsFunc_string__impl_common_c1 (N : Nat) (s : List Txt) (f : List Txt) : Option (Bool × List Txt) :=
  ob (F.slices_IndexFunc_string__impl_common_c1 N s f) (Int.ofNat 0, []) fun r =>
  some (decide (r.1 ≥ 0), r.2)
def impl_common (N : Nat) (a : List Txt) (b : List Txt) : Option Bool :=
  ob (F.slices_ContainsFunc_string__impl_common_c1 N a b) (false, []) fun r =>
  some r.1
def impl_ClaimWantOk_0r (N : Nat) (w : Want) (move3 : Bool) (t41 : Int) (next : Int → Option Bool) : Int → Option Bool := fun t42 =>
    bif decide (t42 < t41) then
      (bif decide (0 ≤ t42) then
        (bif decide (t42 < (↑(List.length w.2.2.2.1) : Int)) then
          (ob (F.impl_name N (List.getD w.2.2.2.1 (Int.toNat t42) dUse).1) false fun r_3 =>
          bif !r_3 then
            (some false)
          else
            (bif decide (t42 > 0) then
              (bif decide (0 ≤ IntKind.i64.wrap (t42 - 1)) then
                (bif decide (IntKind.i64.wrap (t42 - 1) < (↑(List.length w.2.2.2.1) : Int)) then
                  (bif !Op.bytesLess (List.getD w.2.2.2.1 (IntKind.i64.wrap (t42 - 1)).toNat dUse).1 (List.getD w.2.2.2.1 (Int.toNat t42) dUse).1 then
                    (some false)
                  else
                    (ob (F.impl_in N (List.getD w.2.2.2.1 (Int.toNat t42) dUse).2.1 1 3) false fun r_4 =>
                    bif !r_4 then
                      (some false)
                    else
                      (bif (List.getD w.2.2.2.1 (Int.toNat t42) dUse).2.1 == 3 then
                        (bif (List.getD w.2.2.2.1 (Int.toNat t42) dUse).2.2 != 0 then
                          (some false)
                        else
                          (next (IntKind.i64.wrap (t42 + 1))))
                      else
                        (bif !move3 then
                          (some false)
                        else
                          (ob (F.impl_in N (List.getD w.2.2.2.1 (Int.toNat t42) dUse).2.2 1 1000) false fun r_5 =>
                          bif !r_5 then
                            (some false)
                          else
                            (next (IntKind.i64.wrap (t42 + 1)))))))) else none) else none)
            else
              (ob (F.impl_in N (List.getD w.2.2.2.1 (Int.toNat t42) dUse).2.1 1 3) false fun r_6 =>
              bif !r_6 then
                (some false)
              else
                (bif (List.getD w.2.2.2.1 (Int.toNat t42) dUse).2.1 == 3 then
                  (bif (List.getD w.2.2.2.1 (Int.toNat t42) dUse).2.2 != 0 then
                    (some false)
                  else
                    (next (IntKind.i64.wrap (t42 + 1))))
                else
                  (bif !move3 then
                    (some false)
                  else
                    (ob (F.impl_in N (List.getD w.2.2.2.1 (Int.toNat t42) dUse).2.2 1 1000) false fun r_7 =>
                    bif !r_7 then
                      (some false)
                    else
                      (next (IntKind.i64.wrap (t42 + 1))))))))) else none) else none)
    else
      (ob (F.impl_names N w.2.2.2.2.1 12) false fun r_8 =>
      bif !r_8 then
        (some false)
      else
        (ob (F.impl_names N w.2.2.2.2.2 12) false fun r_9 =>
        bif !r_9 then
          (some false)
        else
          (ob (F.impl_common N w.2.2.2.2.1 w.2.2.2.2.2) false fun r_10 =>
          bif r_10 then
            (some false)
          else
            (bif !move3 then
              (bif decide ((↑(List.length w.2.2.2.2.1) : Int) > 0) then
                (some false)
              else
                (some (decide (IntKind.i64.wrap (IntKind.i64.wrap ((↑(List.length w.2.2.2.1) : Int) + (↑(List.length w.2.2.2.2.1) : Int)) + (↑(List.length w.2.2.2.2.2) : Int)) > 0))))
            else
              (some (decide (IntKind.i64.wrap (IntKind.i64.wrap ((↑(List.length w.2.2.2.1) : Int) + (↑(List.length w.2.2.2.2.1) : Int)) + (↑(List.length w.2.2.2.2.2) : Int)) > 0)))))))
def impl_ClaimWantOk_0 (N : Nat) (w : Want) (move3 : Bool) (t41 : Int) : Nat → Int → Option Bool := lp (fun _ => none) fun next => impl_ClaimWantOk_0r N w move3 t41 next
def impl_ClaimWantOkb (N : Nat) (I0 : Want → Bool → Int → Nat → Int → Option Bool) (w : Want) : Option Bool :=
  ob (F.impl_in N w.1 1 1000000) false fun r =>
  bif !r then
    (some false)
  else
    (ob (F.impl_in N w.2.1 1 3) false fun r_1 =>
    bif !r_1 then
      (some false)
    else
      (ob (F.impl_names N w.2.2.1 8) false fun r_2 =>
      bif !r_2 then
        (some false)
      else
        (bif !(w.2.1 == 1) == decide ((↑(List.length w.2.2.1) : Int) > 0) then
          (some false)
        else
          (bif decide ((↑(List.length w.2.2.2.1) : Int) > 8) then
            (some false)
          else
            (I0 w (w.2.1 == 1) (↑(List.length w.2.2.2.1) : Int) N 0)))))
def impl_ClaimWantOk (N : Nat) (w : Want) : Option Bool := impl_ClaimWantOkb N (impl_ClaimWantOk_0 N) w
def impl_ClaimBook_at_c1 (N : Nat) (s : Spot) (p1 : Txt) : Option (Bool × Txt) :=
  some (s.1 == p1, p1)
def slices_IndexFunc_ClaimSpot__impl_ClaimBook_at_c1_0r (N : Nat) (s : List Spot) (t7 : Int) (next : Int → Txt → Option (Int × Txt)) : Int → Txt → Option (Int × Txt) := fun t8 fpc0 =>
    bif decide (t8 < t7) then
      (bif decide (0 ≤ t8) then
        (bif decide (t8 < (↑s.length : Int)) then
          (ob (F.impl_ClaimBook_at_c1 N (s.getD (Int.toNat t8) dSpot) fpc0) (false, []) fun r_1 =>
          bif r_1.1 then
            (some (t8, r_1.2))
          else
            (next (IntKind.i64.wrap (t8 + 1)) r_1.2)) else none) else none)
    else
      (some (-1, fpc0))
def slices_IndexFunc_ClaimSpot__impl_ClaimBook_at_c1_0 (N : Nat) (s : List Spot) (t7 : Int) : Nat → Int → Txt → Option (Int × Txt) := lp (fun _ _ => none) fun next => slices_IndexFunc_ClaimSpot__impl_ClaimBook_at_c1_0r N s t7 next
def slices_IndexFunc_ClaimSpot__impl_ClaimBook_at_c1b (N : Nat) (I0 : (List Spot) → Int → Nat → Int → Txt → Option (Int × Txt)) (s : List Spot) (f : Txt) : Option (Int × Txt) :=
  I0 s (↑s.length : Int) N 0 f
def slices_IndexFunc_ClaimSpot__impl_ClaimBook_at_c1 (N : Nat) (s : List Spot) (f : Txt) : Option (Int × Txt) := slices_IndexFunc_ClaimSpot__impl_ClaimBook_at_c1b N (slices_IndexFunc_ClaimSpot__impl_ClaimBook_at_c1_0 N) s f
def impl_ClaimBook_at (N : Nat) (b : Book) (n : Txt) : Option Int :=
  ob (F.slices_IndexFunc_ClaimSpot__impl_ClaimBook_at_c1 N b.2.1 n) (Int.ofNat 0, []) fun r =>
  some r.1
def impl_within_c1 (N : Nat) (s : Txt) (p1 : List Txt) : Option (Bool × List Txt) :=
  ob (F.slices_Contains_string N p1 s) false fun r =>
  some (!r, p1)
def slices_IndexFunc_string__impl_within_c1_0r (N : Nat) (s : List Txt) (t7 : Int) (next : Int → (List Txt) → Option (Int × List Txt)) : Int → (List Txt) → Option (Int × List Txt) := fun t8 fpc0 =>
    bif decide (t8 < t7) then
      (bif decide (0 ≤ t8) then
        (bif decide (t8 < (↑s.length : Int)) then
          (ob (F.impl_within_c1 N (s.getD (Int.toNat t8) []) fpc0) (false, []) fun r_1 =>
          bif r_1.1 then
            (some (t8, r_1.2))
          else
            (next (IntKind.i64.wrap (t8 + 1)) r_1.2)) else none) else none)
    else
      (some (-1, fpc0))
def slices_IndexFunc_string__impl_within_c1_0 (N : Nat) (s : List Txt) (t7 : Int) : Nat → Int → (List Txt) → Option (Int × List Txt) := lp (fun _ _ => none) fun next => slices_IndexFunc_string__impl_within_c1_0r N s t7 next
def slices_IndexFunc_string__impl_within_c1b (N : Nat) (I0 : (List Txt) → Int → Nat → Int → (List Txt) → Option (Int × List Txt)) (s : List Txt) (f : List Txt) : Option (Int × List Txt) :=
  I0 s (↑s.length : Int) N 0 f
def slices_IndexFunc_string__impl_within_c1 (N : Nat) (s : List Txt) (f : List Txt) : Option (Int × List Txt) := slices_IndexFunc_string__impl_within_c1b N (slices_IndexFunc_string__impl_within_c1_0 N) s f
def slices_ContainsFunc_string__impl_within_c1 (N : Nat) (s : List Txt) (f : List Txt) : Option (Bool × List Txt) :=
  ob (F.slices_IndexFunc_string__impl_within_c1 N s f) (Int.ofNat 0, []) fun r =>
  some (decide (r.1 ≥ 0), r.2)
def impl_within (N : Nat) (a : List Txt) (b : List Txt) : Option Bool :=
  ob (F.slices_ContainsFunc_string__impl_within_c1 N a b) (false, []) fun r =>
  some (!r.1)
def impl_ClaimBook_knows_0r (N : Nat) (b : Book) (w : Want) (t9 : Int) (next : Int → Option Bool) : Int → Option Bool := fun t10 =>
    bif decide (t10 < t9) then
      (bif decide (0 ≤ t10) then
        (bif decide (t10 < (↑(List.length w.2.2.2.1) : Int)) then
          (ob (F.impl_ClaimBook_at N b (List.getD w.2.2.2.1 (Int.toNat t10) dUse).1) (Int.ofNat 0) fun r =>
          bif decide (r < 0) then
            (some false)
          else
            (next (IntKind.i64.wrap (t10 + 1)))) else none) else none)
    else
      (ob (F.impl_within N w.2.2.2.2.1 b.2.2.1) false fun r_1 =>
      bif r_1 then
        (ob (F.impl_within N w.2.2.2.2.2 b.2.2.1) false fun r_2 =>
        some r_2)
      else
        (some false))
def impl_ClaimBook_knows_0 (N : Nat) (b : Book) (w : Want) (t9 : Int) : Nat → Int → Option Bool := lp (fun _ => none) fun next => impl_ClaimBook_knows_0r N b w t9 next
def impl_ClaimBook_knowsb (N : Nat) (I0 : Book → Want → Int → Nat → Int → Option Bool) (b : Book) (w : Want) : Option Bool :=
  I0 b w (↑(List.length w.2.2.2.1) : Int) N 0
def impl_ClaimBook_knows (N : Nat) (b : Book) (w : Want) : Option Bool := impl_ClaimBook_knowsb N (impl_ClaimBook_knows_0 N) b w
def impl_ClaimBook_partOk_0r (N : Nat) (b : Book) (p : Part) (t29 : Int) (next : Int → Option Bool) : Int → Option Bool := fun t30 =>
    bif decide (t30 < t29) then
      (bif decide (0 ≤ t30) then
        (bif decide (t30 < (↑(List.length p.1.2.2.2.1) : Int)) then
          (ob (F.impl_ClaimBook_at N b (List.getD p.1.2.2.2.1 (Int.toNat t30) dUse).1) (Int.ofNat 0) fun r_2 =>
          bif decide (0 ≤ r_2) then
            (bif decide (r_2 < (↑(List.length b.2.1) : Int)) then
              (bif decide (IntKind.i64.wrap ((List.getD b.2.1 (Int.toNat r_2) dSpot).2.2.1 + (List.getD p.1.2.2.2.1 (Int.toNat t30) dUse).2.2) > (List.getD b.2.1 (Int.toNat r_2) dSpot).2.2.2.1) then
                (some false)
              else
                (bif p.1.2.1 == 2 then
                  (bif (List.getD b.2.1 (Int.toNat r_2) dSpot).2.2.2.1 != 0 then
                    (some false)
                  else
                    (bif p.1.2.1 == 1 then
                      (bif (List.getD p.1.2.2.2.1 (Int.toNat t30) dUse).2.1 != 2 then
                        (ob (F.impl_within N (List.getD b.2.1 (Int.toNat r_2) dSpot).2.2.2.2 p.1.2.2.1) false fun r_3 =>
                        bif !r_3 then
                          (some false)
                        else
                          (bif (List.getD p.1.2.2.2.1 (Int.toNat t30) dUse).2.1 != 1 then
                            (ob (F.impl_within N p.1.2.2.1 (List.getD b.2.1 (Int.toNat r_2) dSpot).2.2.2.2) false fun r_4 =>
                            bif !r_4 then
                              (some false)
                            else
                              (next (IntKind.i64.wrap (t30 + 1))))
                          else
                            (next (IntKind.i64.wrap (t30 + 1)))))
                      else
                        (bif (List.getD p.1.2.2.2.1 (Int.toNat t30) dUse).2.1 != 1 then
                          (ob (F.impl_within N p.1.2.2.1 (List.getD b.2.1 (Int.toNat r_2) dSpot).2.2.2.2) false fun r_5 =>
                          bif !r_5 then
                            (some false)
                          else
                            (next (IntKind.i64.wrap (t30 + 1))))
                        else
                          (next (IntKind.i64.wrap (t30 + 1)))))
                    else
                      (next (IntKind.i64.wrap (t30 + 1)))))
                else
                  (bif p.1.2.1 == 1 then
                    (bif (List.getD p.1.2.2.2.1 (Int.toNat t30) dUse).2.1 != 2 then
                      (ob (F.impl_within N (List.getD b.2.1 (Int.toNat r_2) dSpot).2.2.2.2 p.1.2.2.1) false fun r_6 =>
                      bif !r_6 then
                        (some false)
                      else
                        (bif (List.getD p.1.2.2.2.1 (Int.toNat t30) dUse).2.1 != 1 then
                          (ob (F.impl_within N p.1.2.2.1 (List.getD b.2.1 (Int.toNat r_2) dSpot).2.2.2.2) false fun r_7 =>
                          bif !r_7 then
                            (some false)
                          else
                            (next (IntKind.i64.wrap (t30 + 1))))
                        else
                          (next (IntKind.i64.wrap (t30 + 1)))))
                    else
                      (bif (List.getD p.1.2.2.2.1 (Int.toNat t30) dUse).2.1 != 1 then
                        (ob (F.impl_within N p.1.2.2.1 (List.getD b.2.1 (Int.toNat r_2) dSpot).2.2.2.2) false fun r_8 =>
                        bif !r_8 then
                          (some false)
                        else
                          (next (IntKind.i64.wrap (t30 + 1))))
                      else
                        (next (IntKind.i64.wrap (t30 + 1)))))
                  else
                    (next (IntKind.i64.wrap (t30 + 1)))))) else none) else none) else none) else none)
    else
      (some true)
def impl_ClaimBook_partOk_0 (N : Nat) (b : Book) (p : Part) (t29 : Int) : Nat → Int → Option Bool := lp (fun _ => none) fun next => impl_ClaimBook_partOk_0r N b p t29 next
def impl_ClaimBook_partOkb (N : Nat) (I0 : Book → Part → Int → Nat → Int → Option Bool) (b : Book) (p : Part) : Option Bool :=
  bif decide (p.1.1 > b.2.2.2.2) then
    (some false)
  else
    (ob (F.impl_ClaimWantOk N p.1) false fun r =>
    bif !r then
      (some false)
    else
      (ob (F.impl_ClaimBook_knows N b p.1) false fun r_1 =>
      bif !r_1 then
        (some false)
      else
        (I0 b p (↑(List.length p.1.2.2.2.1) : Int) N 0)))
def impl_ClaimBook_partOk (N : Nat) (b : Book) (p : Part) : Option Bool := impl_ClaimBook_partOkb N (impl_ClaimBook_partOk_0 N) b p
def impl_share_c1_c1 (N : Nat) (v : Use) (p1 : Use) : Option (Bool × Use) :=
  some (p1.1 == v.1, p1)
def slices_IndexFunc_ClaimUse__impl_share_c1_c1_0r (N : Nat) (s : List Use) (t7 : Int) (next : Int → Txt → Int → Int → Option (Int × Use)) : Int → Txt → Int → Int → Option (Int × Use) := fun t8 fpc0 fpc1 fpc2 =>
    bif decide (t8 < t7) then
      (bif decide (0 ≤ t8) then
        (bif decide (t8 < (↑s.length : Int)) then
          (ob (F.impl_share_c1_c1 N (s.getD (Int.toNat t8) dUse) (fpc0, fpc1, fpc2)) (false, [], Int.ofNat 0, Int.ofNat 0) fun r_1 =>
          bif r_1.1 then
            (some (t8, r_1.2))
          else
            (next (IntKind.i64.wrap (t8 + 1)) r_1.2.1 r_1.2.2.1 r_1.2.2.2)) else none) else none)
    else
      (some (-1, fpc0, fpc1, fpc2))
def slices_IndexFunc_ClaimUse__impl_share_c1_c1_0 (N : Nat) (s : List Use) (t7 : Int) : Nat → Int → Txt → Int → Int → Option (Int × Use) := lp (fun _ _ _ _ => none) fun next => slices_IndexFunc_ClaimUse__impl_share_c1_c1_0r N s t7 next
def slices_IndexFunc_ClaimUse__impl_share_c1_c1b (N : Nat) (I0 : (List Use) → Int → Nat → Int → Txt → Int → Int → Option (Int × Use)) (s : List Use) (f : Use) : Option (Int × Use) :=
  I0 s (↑s.length : Int) N 0 f.1 f.2.1 f.2.2
def slices_IndexFunc_ClaimUse__impl_share_c1_c1 (N : Nat) (s : List Use) (f : Use) : Option (Int × Use) := slices_IndexFunc_ClaimUse__impl_share_c1_c1b N (slices_IndexFunc_ClaimUse__impl_share_c1_c1_0 N) s f
def slices_ContainsFunc_ClaimUse__impl_share_c1_c1 (N : Nat) (s : List Use) (f : Use) : Option (Bool × Use) :=
  ob (F.slices_IndexFunc_ClaimUse__impl_share_c1_c1 N s f) (Int.ofNat 0, [], Int.ofNat 0, Int.ofNat 0) fun r =>
  some (decide (r.1 ≥ 0), r.2)
def impl_share_c1 (N : Nat) (u : Use) (p1 : Want) : Option (Bool × Want) :=
  ob (F.slices_ContainsFunc_ClaimUse__impl_share_c1_c1 N p1.2.2.2.1 u) (false, [], Int.ofNat 0, Int.ofNat 0) fun r =>
  some (r.1, p1)
def slices_IndexFunc_ClaimUse__impl_share_c1_0r (N : Nat) (s : List Use) (t7 : Int) (next : Int → Int → Int → (List Txt) → (List Use) → (List Txt) → (List Txt) → Option (Int × Want)) : Int → Int → Int → (List Txt) → (List Use) → (List Txt) → (List Txt) → Option (Int × Want) := fun t8 fpc0 fpc1 fpc2 fpc3 fpc4 fpc5 =>
    bif decide (t8 < t7) then
      (bif decide (0 ≤ t8) then
        (bif decide (t8 < (↑s.length : Int)) then
          (ob (F.impl_share_c1 N (s.getD (Int.toNat t8) dUse) (fpc0, fpc1, fpc2, fpc3, fpc4, fpc5)) (false, Int.ofNat 0, Int.ofNat 0, [], [], [], []) fun r_1 =>
          bif r_1.1 then
            (some (t8, r_1.2))
          else
            (next (IntKind.i64.wrap (t8 + 1)) r_1.2.1 r_1.2.2.1 r_1.2.2.2.1 r_1.2.2.2.2.1 r_1.2.2.2.2.2.1 r_1.2.2.2.2.2.2)) else none) else none)
    else
      (some (-1, fpc0, fpc1, fpc2, fpc3, fpc4, fpc5))
def slices_IndexFunc_ClaimUse__impl_share_c1_0 (N : Nat) (s : List Use) (t7 : Int) : Nat → Int → Int → Int → (List Txt) → (List Use) → (List Txt) → (List Txt) → Option (Int × Want) := lp (fun _ _ _ _ _ _ _ => none) fun next => slices_IndexFunc_ClaimUse__impl_share_c1_0r N s t7 next
def slices_IndexFunc_ClaimUse__impl_share_c1b (N : Nat) (I0 : (List Use) → Int → Nat → Int → Int → Int → (List Txt) → (List Use) → (List Txt) → (List Txt) → Option (Int × Want)) (s : List Use) (f : Want) : Option (Int × Want) :=
  I0 s (↑s.length : Int) N 0 f.1 f.2.1 f.2.2.1 f.2.2.2.1 f.2.2.2.2.1 f.2.2.2.2.2
def slices_IndexFunc_ClaimUse__impl_share_c1 (N : Nat) (s : List Use) (f : Want) : Option (Int × Want) := slices_IndexFunc_ClaimUse__impl_share_c1b N (slices_IndexFunc_ClaimUse__impl_share_c1_0 N) s f
def slices_ContainsFunc_ClaimUse__impl_share_c1 (N : Nat) (s : List Use) (f : Want) : Option (Bool × Want) :=
  ob (F.slices_IndexFunc_ClaimUse__impl_share_c1 N s f) (Int.ofNat 0, Int.ofNat 0, Int.ofNat 0, [], [], [], []) fun r =>
  some (decide (r.1 ≥ 0), r.2)
def impl_share (N : Nat) (a : Want) (b : Want) : Option Bool :=
  ob (F.slices_ContainsFunc_ClaimUse__impl_share_c1 N a.2.2.2.1 b) (false, Int.ofNat 0, Int.ofNat 0, [], [], [], []) fun r =>
  some r.1
def impl_cross (N : Nat) (a : Want) (b : Want) : Option Bool :=
  ob (F.impl_common N a.2.2.2.2.1 b.2.2.2.2.1) false fun r =>
  bif r then
    (some true)
  else
    (ob (F.impl_common N a.2.2.2.2.1 b.2.2.2.2.2) false fun r_1 =>
    bif r_1 then
      (some true)
    else
      (ob (F.impl_common N a.2.2.2.2.2 b.2.2.2.2.1) false fun r_2 =>
      some r_2))
def impl_ClaimBookOk_6r (N : Nat) (nx4 : Int → Option Bool) (b : Book) (t150 : Int) (t151 : Int) (t181 : List Part) (t182 : Int) (p8c0 : Int) (p8c1 : Int) (p8c2 : List Txt) (p8c3 : List Use) (p8c4 : List Txt) (p8c5 : List Txt) (p8c6 : Bool) (next : Int → Option Bool) : Int → Option Bool := fun t183 =>
    bif decide (t183 < t182) then
      (bif decide (0 ≤ t183) then
        (bif decide (t183 < (↑(List.length t181) : Int)) then
          (ob (F.impl_share N (p8c0, p8c1, p8c2, p8c3, p8c4, p8c5) (List.getD t181 (Int.toNat t183) dPart).1) false fun r_13 =>
          bif r_13 then
            (some false)
          else
            (ob (F.impl_cross N (p8c0, p8c1, p8c2, p8c3, p8c4, p8c5) (List.getD t181 (Int.toNat t183) dPart).1) false fun r_14 =>
            bif r_14 then
              (some false)
            else
              (next (IntKind.i64.wrap (t183 + 1))))) else none) else none)
    else
      (nx4 (IntKind.i64.wrap (t151 + 1)))
def impl_ClaimBookOk_6 (N : Nat) (nx4 : Int → Option Bool) (b : Book) (t150 : Int) (t151 : Int) (t181 : List Part) (t182 : Int) (p8c0 : Int) (p8c1 : Int) (p8c2 : List Txt) (p8c3 : List Use) (p8c4 : List Txt) (p8c5 : List Txt) (p8c6 : Bool) : Nat → Int → Option Bool := lp (fun _ => none) fun next => impl_ClaimBookOk_6r N nx4 b t150 t151 t181 t182 p8c0 p8c1 p8c2 p8c3 p8c4 p8c5 p8c6 next
def impl_ClaimBookOk_4r (N : Nat) (I0 : Int → (List Part) → Int → Int → Int → (List Txt) → (List Use) → (List Txt) → (List Txt) → Bool → Nat → Int → Option Bool) (b : Book) (t150 : Int) (next : Int → Option Bool) : Int → Option Bool := fun t151 =>
    bif decide (t151 < t150) then
      (bif decide (0 ≤ t151) then
        (bif decide (t151 < (↑(List.length b.2.2.2.1) : Int)) then
          (bif decide (t151 > 0) then
            (bif decide (0 ≤ IntKind.i64.wrap (t151 - 1)) then
              (bif decide (IntKind.i64.wrap (t151 - 1) < (↑(List.length b.2.2.2.1) : Int)) then
                (bif decide ((List.getD b.2.2.2.1 (IntKind.i64.wrap (t151 - 1)).toNat dPart).1.1 ≥ (List.getD b.2.2.2.1 (Int.toNat t151) dPart).1.1) then
                  (some false)
                else
                  (ob (F.impl_ClaimBook_partOk N b (List.getD b.2.2.2.1 (Int.toNat t151) dPart)) false fun r_12 =>
                  bif !r_12 then
                    (some false)
                  else
                    (bif decide (0 ≤ t151) then
                      (bif decide (t151 ≤ (↑(List.length b.2.2.2.1) : Int)) then
                        (I0 t151 (List.drop (Int.toNat 0) (List.take (Int.toNat t151) b.2.2.2.1)) (↑(List.drop (Int.toNat 0) (List.take (Int.toNat t151) b.2.2.2.1)).length : Int) ((List.getD b.2.2.2.1 (Int.toNat t151) dPart).1.1) ((List.getD b.2.2.2.1 (Int.toNat t151) dPart).1.2.1) ((List.getD b.2.2.2.1 (Int.toNat t151) dPart).1.2.2.1) ((List.getD b.2.2.2.1 (Int.toNat t151) dPart).1.2.2.2.1) ((List.getD b.2.2.2.1 (Int.toNat t151) dPart).1.2.2.2.2.1) ((List.getD b.2.2.2.1 (Int.toNat t151) dPart).1.2.2.2.2.2) ((List.getD b.2.2.2.1 (Int.toNat t151) dPart).2) N 0) else none) else none))) else none) else none)
          else
            (ob (F.impl_ClaimBook_partOk N b (List.getD b.2.2.2.1 (Int.toNat t151) dPart)) false fun r_15 =>
            bif !r_15 then
              (some false)
            else
              (bif decide (0 ≤ t151) then
                (bif decide (t151 ≤ (↑(List.length b.2.2.2.1) : Int)) then
                  (I0 t151 (List.drop (Int.toNat 0) (List.take (Int.toNat t151) b.2.2.2.1)) (↑(List.drop (Int.toNat 0) (List.take (Int.toNat t151) b.2.2.2.1)).length : Int) ((List.getD b.2.2.2.1 (Int.toNat t151) dPart).1.1) ((List.getD b.2.2.2.1 (Int.toNat t151) dPart).1.2.1) ((List.getD b.2.2.2.1 (Int.toNat t151) dPart).1.2.2.1) ((List.getD b.2.2.2.1 (Int.toNat t151) dPart).1.2.2.2.1) ((List.getD b.2.2.2.1 (Int.toNat t151) dPart).1.2.2.2.2.1) ((List.getD b.2.2.2.1 (Int.toNat t151) dPart).1.2.2.2.2.2) ((List.getD b.2.2.2.1 (Int.toNat t151) dPart).2) N 0) else none) else none))) else none) else none)
    else
      (some true)
def impl_ClaimBookOk_4 (N : Nat) (b : Book) (t150 : Int) : Nat → Int → Option Bool := lp (fun _ => none) fun next => impl_ClaimBookOk_4r N (impl_ClaimBookOk_6 N next b t150) b t150 next
def impl_ClaimBookOk_2r (N : Nat) (I1 : Book → Int → Nat → Int → Option Bool) (b : Book) (t82 : Int) (next : Int → Option Bool) : Int → Option Bool := fun t83 =>
    bif decide (t83 < t82) then
      (bif decide (0 ≤ t83) then
        (bif decide (t83 < (↑(List.length b.2.1) : Int)) then
          (ob (F.impl_name N (List.getD b.2.1 (Int.toNat t83) dSpot).1) false fun r_5 =>
          bif !r_5 then
            (some false)
          else
            (bif decide (t83 > 0) then
              (bif decide (0 ≤ IntKind.i64.wrap (t83 - 1)) then
                (bif decide (IntKind.i64.wrap (t83 - 1) < (↑(List.length b.2.1) : Int)) then
                  (bif !Op.bytesLess (List.getD b.2.1 (IntKind.i64.wrap (t83 - 1)).toNat dSpot).1 (List.getD b.2.1 (Int.toNat t83) dSpot).1 then
                    (some false)
                  else
                    (ob (F.impl_in N (List.getD b.2.1 (Int.toNat t83) dSpot).2.1 0 1000) false fun r_6 =>
                    bif !r_6 then
                      (some false)
                    else
                      (bif decide ((List.getD b.2.1 (Int.toNat t83) dSpot).2.2.1 < 0) then
                        (some false)
                      else
                        (bif decide ((List.getD b.2.1 (Int.toNat t83) dSpot).2.2.1 > (List.getD b.2.1 (Int.toNat t83) dSpot).2.2.2.1) then
                          (some false)
                        else
                          (bif decide ((List.getD b.2.1 (Int.toNat t83) dSpot).2.2.2.1 > (List.getD b.2.1 (Int.toNat t83) dSpot).2.1) then
                            (some false)
                          else
                            (ob (F.impl_names N (List.getD b.2.1 (Int.toNat t83) dSpot).2.2.2.2 8) false fun r_7 =>
                            bif !r_7 then
                              (some false)
                            else
                              (ob (F.impl_ClaimBook_foes N b (List.getD b.2.1 (Int.toNat t83) dSpot).2.2.2.2 (List.getD b.2.1 (Int.toNat t83) dSpot).2.2.2.2) false fun r_8 =>
                              bif r_8 then
                                (some false)
                              else
                                (next (IntKind.i64.wrap (t83 + 1)))))))))) else none) else none)
            else
              (ob (F.impl_in N (List.getD b.2.1 (Int.toNat t83) dSpot).2.1 0 1000) false fun r_9 =>
              bif !r_9 then
                (some false)
              else
                (bif decide ((List.getD b.2.1 (Int.toNat t83) dSpot).2.2.1 < 0) then
                  (some false)
                else
                  (bif decide ((List.getD b.2.1 (Int.toNat t83) dSpot).2.2.1 > (List.getD b.2.1 (Int.toNat t83) dSpot).2.2.2.1) then
                    (some false)
                  else
                    (bif decide ((List.getD b.2.1 (Int.toNat t83) dSpot).2.2.2.1 > (List.getD b.2.1 (Int.toNat t83) dSpot).2.1) then
                      (some false)
                    else
                      (ob (F.impl_names N (List.getD b.2.1 (Int.toNat t83) dSpot).2.2.2.2 8) false fun r_10 =>
                      bif !r_10 then
                        (some false)
                      else
                        (ob (F.impl_ClaimBook_foes N b (List.getD b.2.1 (Int.toNat t83) dSpot).2.2.2.2 (List.getD b.2.1 (Int.toNat t83) dSpot).2.2.2.2) false fun r_11 =>
                        bif r_11 then
                          (some false)
                        else
                          (next (IntKind.i64.wrap (t83 + 1))))))))))) else none) else none)
    else
      (I1 b (↑(List.length b.2.2.2.1) : Int) N 0)
def impl_ClaimBookOk_2 (N : Nat) (b : Book) (t82 : Int) : Nat → Int → Option Bool := lp (fun _ => none) fun next => impl_ClaimBookOk_2r N (impl_ClaimBookOk_4 N) b t82 next
def impl_ClaimBookOk_0r (N : Nat) (I2 : Book → Int → Nat → Int → Option Bool) (b : Book) (t41 : Int) (next : Int → Option Bool) : Int → Option Bool := fun t42 =>
    bif decide (t42 < t41) then
      (bif decide (0 ≤ t42) then
        (bif decide (t42 < (↑(List.length b.1) : Int)) then
          (ob (F.impl_name N (List.getD b.1 (Int.toNat t42) dFoe).1) false fun r_2 =>
          bif !r_2 then
            (some false)
          else
            (ob (F.impl_name N (List.getD b.1 (Int.toNat t42) dFoe).2) false fun r_3 =>
            bif !r_3 then
              (some false)
            else
              (bif !Op.bytesLess (List.getD b.1 (Int.toNat t42) dFoe).1 (List.getD b.1 (Int.toNat t42) dFoe).2 then
                (some false)
              else
                (bif decide (t42 > 0) then
                  (bif decide (0 ≤ IntKind.i64.wrap (t42 - 1)) then
                    (bif decide (IntKind.i64.wrap (t42 - 1) < (↑(List.length b.1) : Int)) then
                      (ob (F.impl_ClaimFoe_ahead N (List.getD b.1 (IntKind.i64.wrap (t42 - 1)).toNat dFoe) (List.getD b.1 (Int.toNat t42) dFoe)) false fun r_4 =>
                      bif !r_4 then
                        (some false)
                      else
                        (next (IntKind.i64.wrap (t42 + 1)))) else none) else none)
                else
                  (next (IntKind.i64.wrap (t42 + 1))))))) else none) else none)
    else
      (I2 b (↑(List.length b.2.1) : Int) N 0)
def impl_ClaimBookOk_0 (N : Nat) (b : Book) (t41 : Int) : Nat → Int → Option Bool := lp (fun _ => none) fun next => impl_ClaimBookOk_0r N (impl_ClaimBookOk_2 N) b t41 next
def impl_ClaimBookOkb (N : Nat) (I3 : Book → Int → Nat → Int → Option Bool) (b : Book) : Option Bool :=
  bif decide ((↑(List.length b.1) : Int) > 12) then
    (some false)
  else
    (bif decide ((↑(List.length b.2.1) : Int) > 8) then
      (some false)
    else
      (bif decide ((↑(List.length b.2.2.2.1) : Int) > 6) then
        (some false)
      else
        (ob (F.impl_names N b.2.2.1 12) false fun r =>
        bif !r then
          (some false)
        else
          (ob (F.impl_in N b.2.2.2.2 0 1000000) false fun r_1 =>
          bif !r_1 then
            (some false)
          else
            (I3 b (↑(List.length b.1) : Int) N 0)))))
def impl_ClaimBookOk (N : Nat) (b : Book) : Option Bool := impl_ClaimBookOkb N (impl_ClaimBookOk_0 N) b
def impl_ClaimShut_0r (N : Nat) (b : Book) (valve : Txt) (t14 : Int) (next : Int → (List Int) → Option (List Int)) : Int → (List Int) → Option (List Int) := fun t15 out5a =>
    bif decide (t15 < t14) then
      (bif decide (0 ≤ t15) then
        (bif decide (t15 < (↑(List.length b.2.2.2.1) : Int)) then
          (ob (F.slices_Contains_string N (List.getD b.2.2.2.1 (Int.toNat t15) dPart).1.2.2.2.2.2 valve) false fun r_1 =>
          bif r_1 then
            (bif decide ((out5a.length + [(List.getD b.2.2.2.1 (Int.toNat t15) dPart).1.1].length) * 8 ≤ lim) then
              (next (IntKind.i64.wrap (t15 + 1)) (out5a ++ [(List.getD b.2.2.2.1 (Int.toNat t15) dPart).1.1])) else none)
          else
            (next (IntKind.i64.wrap (t15 + 1)) out5a)) else none) else none)
    else
      (some out5a)
def impl_ClaimShut_0 (N : Nat) (b : Book) (valve : Txt) (t14 : Int) : Nat → Int → (List Int) → Option (List Int) := lp (fun _ _ => none) fun next => impl_ClaimShut_0r N b valve t14 next
def impl_ClaimShutb (N : Nat) (I0 : Book → Txt → Int → Nat → Int → (List Int) → Option (List Int)) (b : Book) (valve : Txt) : Option (List Int) :=
  ob (F.impl_ClaimBookOk N b) false fun r =>
  bif !r then
    (some [])
  else
    (I0 b valve (↑(List.length b.2.2.2.1) : Int) N 0 [])
def impl_ClaimShut (N : Nat) (b : Book) (valve : Txt) : Option (List Int) := impl_ClaimShutb N (impl_ClaimShut_0 N) b valve
def laws_eqIntS_0r (N : Nat) (a : List Int) (b : List Int) (next : Int → Option Bool) : Int → Option Bool := fun i5 =>
    bif decide (i5 < (↑a.length : Int)) then
      (bif decide (0 ≤ i5) then
        (bif decide (i5 < (↑a.length : Int)) then
          (bif decide (0 ≤ i5) then
            (bif decide (i5 < (↑b.length : Int)) then
              (bif a.getD (Int.toNat i5) (Int.ofNat 0) != b.getD (Int.toNat i5) (Int.ofNat 0) then
                (some false)
              else
                (next (IntKind.i64.wrap (i5 + 1)))) else none) else none) else none) else none)
    else
      (some true)
def laws_eqIntS_0 (N : Nat) (a : List Int) (b : List Int) : Nat → Int → Option Bool := lp (fun _ => none) fun next => laws_eqIntS_0r N a b next
def laws_eqIntSb (N : Nat) (I0 : (List Int) → (List Int) → Nat → Int → Option Bool) (a : List Int) (b : List Int) : Option Bool :=
  bif (↑a.length : Int) != (↑b.length : Int) then
    (some false)
  else
    (I0 a b N 0)
def laws_eqIntS (N : Nat) (a : List Int) (b : List Int) : Option Bool := laws_eqIntSb N (laws_eqIntS_0 N) a b
def laws_eqClaimFoe (N : Nat) (a : Foe) (b : Foe) : Option Bool :=
  bif !a.1 == b.1 then
    (some false)
  else
    (bif !a.2 == b.2 then
      (some false)
    else
      (some true))
def laws_eqClaimFoeS_0r (N : Nat) (a : List Foe) (b : List Foe) (next : Int → Option Bool) : Int → Option Bool := fun i5 =>
    bif decide (i5 < (↑a.length : Int)) then
      (bif decide (0 ≤ i5) then
        (bif decide (i5 < (↑a.length : Int)) then
          (bif decide (0 ≤ i5) then
            (bif decide (i5 < (↑b.length : Int)) then
              (ob (F.laws_eqClaimFoe N (a.getD (Int.toNat i5) dFoe) (b.getD (Int.toNat i5) dFoe)) false fun r =>
              bif !r then
                (some false)
              else
                (next (IntKind.i64.wrap (i5 + 1)))) else none) else none) else none) else none)
    else
      (some true)
def laws_eqClaimFoeS_0 (N : Nat) (a : List Foe) (b : List Foe) : Nat → Int → Option Bool := lp (fun _ => none) fun next => laws_eqClaimFoeS_0r N a b next
def laws_eqClaimFoeSb (N : Nat) (I0 : (List Foe) → (List Foe) → Nat → Int → Option Bool) (a : List Foe) (b : List Foe) : Option Bool :=
  bif (↑a.length : Int) != (↑b.length : Int) then
    (some false)
  else
    (I0 a b N 0)
def laws_eqClaimFoeS (N : Nat) (a : List Foe) (b : List Foe) : Option Bool := laws_eqClaimFoeSb N (laws_eqClaimFoeS_0 N) a b
def laws_eqStringS_0r (N : Nat) (a : List Txt) (b : List Txt) (next : Int → Option Bool) : Int → Option Bool := fun i5 =>
    bif decide (i5 < (↑a.length : Int)) then
      (bif decide (0 ≤ i5) then
        (bif decide (i5 < (↑a.length : Int)) then
          (bif decide (0 ≤ i5) then
            (bif decide (i5 < (↑b.length : Int)) then
              (bif !a.getD (Int.toNat i5) [] == b.getD (Int.toNat i5) [] then
                (some false)
              else
                (next (IntKind.i64.wrap (i5 + 1)))) else none) else none) else none) else none)
    else
      (some true)
def laws_eqStringS_0 (N : Nat) (a : List Txt) (b : List Txt) : Nat → Int → Option Bool := lp (fun _ => none) fun next => laws_eqStringS_0r N a b next
def laws_eqStringSb (N : Nat) (I0 : (List Txt) → (List Txt) → Nat → Int → Option Bool) (a : List Txt) (b : List Txt) : Option Bool :=
  bif (↑a.length : Int) != (↑b.length : Int) then
    (some false)
  else
    (I0 a b N 0)
def laws_eqStringS (N : Nat) (a : List Txt) (b : List Txt) : Option Bool := laws_eqStringSb N (laws_eqStringS_0 N) a b
def laws_eqClaimSpot (N : Nat) (a : Spot) (b : Spot) : Option Bool :=
  bif !a.1 == b.1 then
    (some false)
  else
    (bif a.2.1 != b.2.1 then
      (some false)
    else
      (bif a.2.2.1 != b.2.2.1 then
        (some false)
      else
        (bif a.2.2.2.1 != b.2.2.2.1 then
          (some false)
        else
          (ob (F.laws_eqStringS N a.2.2.2.2 b.2.2.2.2) false fun r =>
          bif !r then
            (some false)
          else
            (some true)))))
def laws_eqClaimSpotS_0r (N : Nat) (a : List Spot) (b : List Spot) (next : Int → Option Bool) : Int → Option Bool := fun i5 =>
    bif decide (i5 < (↑a.length : Int)) then
      (bif decide (0 ≤ i5) then
        (bif decide (i5 < (↑a.length : Int)) then
          (bif decide (0 ≤ i5) then
            (bif decide (i5 < (↑b.length : Int)) then
              (ob (F.laws_eqClaimSpot N (a.getD (Int.toNat i5) dSpot) (b.getD (Int.toNat i5) dSpot)) false fun r =>
              bif !r then
                (some false)
              else
                (next (IntKind.i64.wrap (i5 + 1)))) else none) else none) else none) else none)
    else
      (some true)
def laws_eqClaimSpotS_0 (N : Nat) (a : List Spot) (b : List Spot) : Nat → Int → Option Bool := lp (fun _ => none) fun next => laws_eqClaimSpotS_0r N a b next
def laws_eqClaimSpotSb (N : Nat) (I0 : (List Spot) → (List Spot) → Nat → Int → Option Bool) (a : List Spot) (b : List Spot) : Option Bool :=
  bif (↑a.length : Int) != (↑b.length : Int) then
    (some false)
  else
    (I0 a b N 0)
def laws_eqClaimSpotS (N : Nat) (a : List Spot) (b : List Spot) : Option Bool := laws_eqClaimSpotSb N (laws_eqClaimSpotS_0 N) a b
def laws_eqClaimUse (N : Nat) (a : Use) (b : Use) : Option Bool :=
  bif !a.1 == b.1 then
    (some false)
  else
    (bif a.2.1 != b.2.1 then
      (some false)
    else
      (bif a.2.2 != b.2.2 then
        (some false)
      else
        (some true)))
def laws_eqClaimUseS_0r (N : Nat) (a : List Use) (b : List Use) (next : Int → Option Bool) : Int → Option Bool := fun i5 =>
    bif decide (i5 < (↑a.length : Int)) then
      (bif decide (0 ≤ i5) then
        (bif decide (i5 < (↑a.length : Int)) then
          (bif decide (0 ≤ i5) then
            (bif decide (i5 < (↑b.length : Int)) then
              (ob (F.laws_eqClaimUse N (a.getD (Int.toNat i5) dUse) (b.getD (Int.toNat i5) dUse)) false fun r =>
              bif !r then
                (some false)
              else
                (next (IntKind.i64.wrap (i5 + 1)))) else none) else none) else none) else none)
    else
      (some true)
def laws_eqClaimUseS_0 (N : Nat) (a : List Use) (b : List Use) : Nat → Int → Option Bool := lp (fun _ => none) fun next => laws_eqClaimUseS_0r N a b next
def laws_eqClaimUseSb (N : Nat) (I0 : (List Use) → (List Use) → Nat → Int → Option Bool) (a : List Use) (b : List Use) : Option Bool :=
  bif (↑a.length : Int) != (↑b.length : Int) then
    (some false)
  else
    (I0 a b N 0)
def laws_eqClaimUseS (N : Nat) (a : List Use) (b : List Use) : Option Bool := laws_eqClaimUseSb N (laws_eqClaimUseS_0 N) a b
def laws_eqClaimWant (N : Nat) (a : Want) (b : Want) : Option Bool :=
  bif a.1 != b.1 then
    (some false)
  else
    (bif a.2.1 != b.2.1 then
      (some false)
    else
      (ob (F.laws_eqStringS N a.2.2.1 b.2.2.1) false fun r =>
      bif !r then
        (some false)
      else
        (ob (F.laws_eqClaimUseS N a.2.2.2.1 b.2.2.2.1) false fun r_1 =>
        bif !r_1 then
          (some false)
        else
          (ob (F.laws_eqStringS N a.2.2.2.2.1 b.2.2.2.2.1) false fun r_2 =>
          bif !r_2 then
            (some false)
          else
            (ob (F.laws_eqStringS N a.2.2.2.2.2 b.2.2.2.2.2) false fun r_3 =>
            bif !r_3 then
              (some false)
            else
              (some true))))))
def laws_eqClaimPart (N : Nat) (a : Part) (b : Part) : Option Bool :=
  ob (F.laws_eqClaimWant N a.1 b.1) false fun r =>
  bif !r then
    (some false)
  else
    (bif !a.2 == b.2 then
      (some false)
    else
      (some true))
def laws_eqClaimPartS_0r (N : Nat) (a : List Part) (b : List Part) (next : Int → Option Bool) : Int → Option Bool := fun i5 =>
    bif decide (i5 < (↑a.length : Int)) then
      (bif decide (0 ≤ i5) then
        (bif decide (i5 < (↑a.length : Int)) then
          (bif decide (0 ≤ i5) then
            (bif decide (i5 < (↑b.length : Int)) then
              (ob (F.laws_eqClaimPart N (a.getD (Int.toNat i5) dPart) (b.getD (Int.toNat i5) dPart)) false fun r =>
              bif !r then
                (some false)
              else
                (next (IntKind.i64.wrap (i5 + 1)))) else none) else none) else none) else none)
    else
      (some true)
def laws_eqClaimPartS_0 (N : Nat) (a : List Part) (b : List Part) : Nat → Int → Option Bool := lp (fun _ => none) fun next => laws_eqClaimPartS_0r N a b next
def laws_eqClaimPartSb (N : Nat) (I0 : (List Part) → (List Part) → Nat → Int → Option Bool) (a : List Part) (b : List Part) : Option Bool :=
  bif (↑a.length : Int) != (↑b.length : Int) then
    (some false)
  else
    (I0 a b N 0)
def laws_eqClaimPartS (N : Nat) (a : List Part) (b : List Part) : Option Bool := laws_eqClaimPartSb N (laws_eqClaimPartS_0 N) a b
def laws_eqClaimBook (N : Nat) (a : Book) (b : Book) : Option Bool :=
  ob (F.laws_eqClaimFoeS N a.1 b.1) false fun r =>
  bif !r then
    (some false)
  else
    (ob (F.laws_eqClaimSpotS N a.2.1 b.2.1) false fun r_1 =>
    bif !r_1 then
      (some false)
    else
      (ob (F.laws_eqStringS N a.2.2.1 b.2.2.1) false fun r_2 =>
      bif !r_2 then
        (some false)
      else
        (ob (F.laws_eqClaimPartS N a.2.2.2.1 b.2.2.2.1) false fun r_3 =>
        bif !r_3 then
          (some false)
        else
          (bif a.2.2.2.2 != b.2.2.2.2 then
            (some false)
          else
            (some true)))))
def laws_markText_0r (N : Nat) (next : Int → Txt → Option Txt) : Int → Txt → Option Txt := fun k0_1 out3 =>
    bif decide (k0_1 > 0) then
      (bif decide ((List.map byteOf [IntKind.u8.wrap (IntKind.i64.wrap (48 + Int.tmod k0_1 10))]).length + List.length out3 ≤ lim) then
        (next (IntKind.i64.wrap (Int.tdiv k0_1 10)) (List.map byteOf [IntKind.u8.wrap (IntKind.i64.wrap (48 + Int.tmod k0_1 10))] ++ out3)) else none)
    else
      (bif decide ([109].length + List.length out3 ≤ lim) then
        (some ([109] ++ out3)) else none)
def laws_markText_0 (N : Nat) : Nat → Int → Txt → Option Txt := lp (fun _ _ => none) fun next => laws_markText_0r N next
def laws_markTextb (N : Nat) (I0 : Nat → Int → Txt → Option Txt) (k0 : Int) : Option Txt :=
  bif decide (k0 ≤ 0) then
    (some [109, 48])
  else
    (I0 N k0 [])
def laws_markText (N : Nat) (k0 : Int) : Option Txt := laws_markTextb N (laws_markText_0 N) k0
def laws_markClaimFoeS_0r (N : Nat) (next : Int → Int → (List Foe) → Option (Int × List Foe)) : Int → Int → (List Foe) → Option (Int × List Foe) := fun k1 i5 apa =>
    bif decide (i5 < (↑apa.length : Int)) then
      (ob (F.laws_markText N k1) [] fun r_2 =>
      bif decide (0 ≤ i5) then
        (bif decide (i5 < (↑apa.length : Int)) then
          (let apas_2 : List Foe := apa.set (Int.toNat i5) (r_2, (apa.getD (Int.toNat i5) dFoe).2)
          ob (F.laws_markText N (IntKind.i64.wrap (k1 + 1))) [] fun r_3 =>
          bif decide (0 ≤ i5) then
            (bif decide (i5 < (↑apas_2.length : Int)) then
              (let apas_3 : List Foe := apas_2.set (Int.toNat i5) ((apas_2.getD (Int.toNat i5) dFoe).1, r_3)
              next (IntKind.i64.wrap (IntKind.i64.wrap (k1 + 1) + 1)) (IntKind.i64.wrap (i5 + 1)) apas_3) else none) else none) else none) else none)
    else
      (some (k1, apa))
def laws_markClaimFoeS_0 (N : Nat) : Nat → Int → Int → (List Foe) → Option (Int × List Foe) := lp (fun _ _ _ => none) fun next => laws_markClaimFoeS_0r N next
def laws_markClaimFoeSb (N : Nat) (I0 : Nat → Int → Int → (List Foe) → Option (Int × List Foe)) (a : List Foe) (k0 : Int) : Option (Int × List Foe) :=
  I0 N k0 0 a
def laws_markClaimFoeS (N : Nat) (a : List Foe) (k0 : Int) : Option (Int × List Foe) := laws_markClaimFoeSb N (laws_markClaimFoeS_0 N) a k0
def laws_markStringS_0r (N : Nat) (next : Int → Int → (List Txt) → Option (Int × List Txt)) : Int → Int → (List Txt) → Option (Int × List Txt) := fun k1 i5 apa =>
    bif decide (i5 < (↑apa.length : Int)) then
      (ob (F.laws_markText N k1) [] fun r_1 =>
      bif decide (0 ≤ i5) then
        (bif decide (i5 < (↑apa.length : Int)) then
          (let apas_1 : List Txt := apa.set (Int.toNat i5) r_1
          next (IntKind.i64.wrap (k1 + 1)) (IntKind.i64.wrap (i5 + 1)) apas_1) else none) else none)
    else
      (some (k1, apa))
def laws_markStringS_0 (N : Nat) : Nat → Int → Int → (List Txt) → Option (Int × List Txt) := lp (fun _ _ _ => none) fun next => laws_markStringS_0r N next
def laws_markStringSb (N : Nat) (I0 : Nat → Int → Int → (List Txt) → Option (Int × List Txt)) (a : List Txt) (k0 : Int) : Option (Int × List Txt) :=
  I0 N k0 0 a
def laws_markStringS (N : Nat) (a : List Txt) (k0 : Int) : Option (Int × List Txt) := laws_markStringSb N (laws_markStringS_0 N) a k0
def laws_markClaimSpotS_0r (N : Nat) (next : Int → Int → (List Spot) → Option (Int × List Spot)) : Int → Int → (List Spot) → Option (Int × List Spot) := fun k1 i5 apa =>
    bif decide (i5 < (↑apa.length : Int)) then
      (ob (F.laws_markText N k1) [] fun r_2 =>
      bif decide (0 ≤ i5) then
        (bif decide (i5 < (↑apa.length : Int)) then
          (let apas_6 : List Spot := apa.set (Int.toNat i5) (r_2, (apa.getD (Int.toNat i5) dSpot).2)
          bif decide (0 ≤ i5) then
            (bif decide (i5 < (↑apas_6.length : Int)) then
              (let apas_7 : List Spot := apas_6.set (Int.toNat i5) ((apas_6.getD (Int.toNat i5) dSpot).1, IntKind.i64.wrap (k1 + 1), (apas_6.getD (Int.toNat i5) dSpot).2.2)
              bif decide (0 ≤ i5) then
                (bif decide (i5 < (↑apas_7.length : Int)) then
                  (let apas_8 : List Spot := apas_7.set (Int.toNat i5) ((apas_7.getD (Int.toNat i5) dSpot).1, (apas_7.getD (Int.toNat i5) dSpot).2.1, IntKind.i64.wrap (IntKind.i64.wrap (k1 + 1) + 1), (apas_7.getD (Int.toNat i5) dSpot).2.2.2)
                  bif decide (0 ≤ i5) then
                    (bif decide (i5 < (↑apas_8.length : Int)) then
                      (let apas_9 : List Spot := apas_8.set (Int.toNat i5) ((apas_8.getD (Int.toNat i5) dSpot).1, (apas_8.getD (Int.toNat i5) dSpot).2.1, (apas_8.getD (Int.toNat i5) dSpot).2.2.1, IntKind.i64.wrap (IntKind.i64.wrap (IntKind.i64.wrap (k1 + 1) + 1) + 1), (apas_8.getD (Int.toNat i5) dSpot).2.2.2.2)
                      bif decide (0 ≤ i5) then
                        (bif decide (i5 < (↑apas_9.length : Int)) then
                          (let apas_10 : List Spot := apas_9.set (Int.toNat i5) ((apas_9.getD (Int.toNat i5) dSpot).1, (apas_9.getD (Int.toNat i5) dSpot).2.1, (apas_9.getD (Int.toNat i5) dSpot).2.2.1, (apas_9.getD (Int.toNat i5) dSpot).2.2.2.1, [])
                          ob (F.laws_markStringS N (apas_9.getD (Int.toNat i5) dSpot).2.2.2.2 (IntKind.i64.wrap (IntKind.i64.wrap (IntKind.i64.wrap (IntKind.i64.wrap (k1 + 1) + 1) + 1) + 1))) (Int.ofNat 0, []) fun r_3 =>
                          let apas_11 : List Spot := apas_10.set (Int.toNat i5) ((apas_10.getD (Int.toNat i5) dSpot).1, (apas_10.getD (Int.toNat i5) dSpot).2.1, (apas_10.getD (Int.toNat i5) dSpot).2.2.1, (apas_10.getD (Int.toNat i5) dSpot).2.2.2.1, r_3.2)
                          next r_3.1 (IntKind.i64.wrap (i5 + 1)) apas_11) else none) else none) else none) else none) else none) else none) else none) else none) else none) else none)
    else
      (some (k1, apa))
def laws_markClaimSpotS_0 (N : Nat) : Nat → Int → Int → (List Spot) → Option (Int × List Spot) := lp (fun _ _ _ => none) fun next => laws_markClaimSpotS_0r N next
def laws_markClaimSpotSb (N : Nat) (I0 : Nat → Int → Int → (List Spot) → Option (Int × List Spot)) (a : List Spot) (k0 : Int) : Option (Int × List Spot) :=
  I0 N k0 0 a
def laws_markClaimSpotS (N : Nat) (a : List Spot) (k0 : Int) : Option (Int × List Spot) := laws_markClaimSpotSb N (laws_markClaimSpotS_0 N) a k0
def laws_markClaimUseS_0r (N : Nat) (next : Int → Int → (List Use) → Option (Int × List Use)) : Int → Int → (List Use) → Option (Int × List Use) := fun k1 i5 apa =>
    bif decide (i5 < (↑apa.length : Int)) then
      (ob (F.laws_markText N k1) [] fun r_1 =>
      bif decide (0 ≤ i5) then
        (bif decide (i5 < (↑apa.length : Int)) then
          (let apas_3 : List Use := apa.set (Int.toNat i5) (r_1, (apa.getD (Int.toNat i5) dUse).2)
          bif decide (0 ≤ i5) then
            (bif decide (i5 < (↑apas_3.length : Int)) then
              (let apas_4 : List Use := apas_3.set (Int.toNat i5) ((apas_3.getD (Int.toNat i5) dUse).1, IntKind.i64.wrap (k1 + 1), (apas_3.getD (Int.toNat i5) dUse).2.2)
              bif decide (0 ≤ i5) then
                (bif decide (i5 < (↑apas_4.length : Int)) then
                  (let apas_5 : List Use := apas_4.set (Int.toNat i5) ((apas_4.getD (Int.toNat i5) dUse).1, (apas_4.getD (Int.toNat i5) dUse).2.1, IntKind.i64.wrap (IntKind.i64.wrap (k1 + 1) + 1))
                  next (IntKind.i64.wrap (IntKind.i64.wrap (IntKind.i64.wrap (k1 + 1) + 1) + 1)) (IntKind.i64.wrap (i5 + 1)) apas_5) else none) else none) else none) else none) else none) else none)
    else
      (some (k1, apa))
def laws_markClaimUseS_0 (N : Nat) : Nat → Int → Int → (List Use) → Option (Int × List Use) := lp (fun _ _ _ => none) fun next => laws_markClaimUseS_0r N next
def laws_markClaimUseSb (N : Nat) (I0 : Nat → Int → Int → (List Use) → Option (Int × List Use)) (a : List Use) (k0 : Int) : Option (Int × List Use) :=
  I0 N k0 0 a
def laws_markClaimUseS (N : Nat) (a : List Use) (k0 : Int) : Option (Int × List Use) := laws_markClaimUseSb N (laws_markClaimUseS_0 N) a k0
def laws_markClaimPartS_0r (N : Nat) (next : Int → Int → (List Part) → Option (Int × List Part)) : Int → Int → (List Part) → Option (Int × List Part) := fun k1 i5 apa =>
    bif decide (i5 < (↑apa.length : Int)) then
      (bif decide (0 ≤ i5) then
        (bif decide (i5 < (↑apa.length : Int)) then
          (let apas_11 : List Part := apa.set (Int.toNat i5) ((k1, (apa.getD (Int.toNat i5) dPart).1.2), (apa.getD (Int.toNat i5) dPart).2)
          bif decide (0 ≤ i5) then
            (bif decide (i5 < (↑apas_11.length : Int)) then
              (let apas_12 : List Part := apas_11.set (Int.toNat i5) (((apas_11.getD (Int.toNat i5) dPart).1.1, IntKind.i64.wrap (k1 + 1), (apas_11.getD (Int.toNat i5) dPart).1.2.2), (apas_11.getD (Int.toNat i5) dPart).2)
              bif decide (0 ≤ i5) then
                (bif decide (i5 < (↑apas_12.length : Int)) then
                  (let apas_13 : List Part := apas_12.set (Int.toNat i5) (((apas_12.getD (Int.toNat i5) dPart).1.1, (apas_12.getD (Int.toNat i5) dPart).1.2.1, [], (apas_12.getD (Int.toNat i5) dPart).1.2.2.2), (apas_12.getD (Int.toNat i5) dPart).2)
                  ob (F.laws_markStringS N (apas_12.getD (Int.toNat i5) dPart).1.2.2.1 (IntKind.i64.wrap (IntKind.i64.wrap (k1 + 1) + 1))) (Int.ofNat 0, []) fun r_4 =>
                  let apas_14 : List Part := apas_13.set (Int.toNat i5) (((apas_13.getD (Int.toNat i5) dPart).1.1, (apas_13.getD (Int.toNat i5) dPart).1.2.1, r_4.2, (apas_13.getD (Int.toNat i5) dPart).1.2.2.2), (apas_13.getD (Int.toNat i5) dPart).2)
                  bif decide (0 ≤ i5) then
                    (bif decide (i5 < (↑apas_14.length : Int)) then
                      (let apas_15 : List Part := apas_14.set (Int.toNat i5) (((apas_14.getD (Int.toNat i5) dPart).1.1, (apas_14.getD (Int.toNat i5) dPart).1.2.1, (apas_14.getD (Int.toNat i5) dPart).1.2.2.1, [], (apas_14.getD (Int.toNat i5) dPart).1.2.2.2.2), (apas_14.getD (Int.toNat i5) dPart).2)
                      ob (F.laws_markClaimUseS N (apas_14.getD (Int.toNat i5) dPart).1.2.2.2.1 r_4.1) (Int.ofNat 0, []) fun r_5 =>
                      let apas_16 : List Part := apas_15.set (Int.toNat i5) (((apas_15.getD (Int.toNat i5) dPart).1.1, (apas_15.getD (Int.toNat i5) dPart).1.2.1, (apas_15.getD (Int.toNat i5) dPart).1.2.2.1, r_5.2, (apas_15.getD (Int.toNat i5) dPart).1.2.2.2.2), (apas_15.getD (Int.toNat i5) dPart).2)
                      bif decide (0 ≤ i5) then
                        (bif decide (i5 < (↑apas_16.length : Int)) then
                          (let apas_17 : List Part := apas_16.set (Int.toNat i5) (((apas_16.getD (Int.toNat i5) dPart).1.1, (apas_16.getD (Int.toNat i5) dPart).1.2.1, (apas_16.getD (Int.toNat i5) dPart).1.2.2.1, (apas_16.getD (Int.toNat i5) dPart).1.2.2.2.1, [], (apas_16.getD (Int.toNat i5) dPart).1.2.2.2.2.2), (apas_16.getD (Int.toNat i5) dPart).2)
                          ob (F.laws_markStringS N (apas_16.getD (Int.toNat i5) dPart).1.2.2.2.2.1 r_5.1) (Int.ofNat 0, []) fun r_6 =>
                          let apas_18 : List Part := apas_17.set (Int.toNat i5) (((apas_17.getD (Int.toNat i5) dPart).1.1, (apas_17.getD (Int.toNat i5) dPart).1.2.1, (apas_17.getD (Int.toNat i5) dPart).1.2.2.1, (apas_17.getD (Int.toNat i5) dPart).1.2.2.2.1, r_6.2, (apas_17.getD (Int.toNat i5) dPart).1.2.2.2.2.2), (apas_17.getD (Int.toNat i5) dPart).2)
                          bif decide (0 ≤ i5) then
                            (bif decide (i5 < (↑apas_18.length : Int)) then
                              (let apas_19 : List Part := apas_18.set (Int.toNat i5) (((apas_18.getD (Int.toNat i5) dPart).1.1, (apas_18.getD (Int.toNat i5) dPart).1.2.1, (apas_18.getD (Int.toNat i5) dPart).1.2.2.1, (apas_18.getD (Int.toNat i5) dPart).1.2.2.2.1, (apas_18.getD (Int.toNat i5) dPart).1.2.2.2.2.1, []), (apas_18.getD (Int.toNat i5) dPart).2)
                              ob (F.laws_markStringS N (apas_18.getD (Int.toNat i5) dPart).1.2.2.2.2.2 r_6.1) (Int.ofNat 0, []) fun r_7 =>
                              let apas_20 : List Part := apas_19.set (Int.toNat i5) (((apas_19.getD (Int.toNat i5) dPart).1.1, (apas_19.getD (Int.toNat i5) dPart).1.2.1, (apas_19.getD (Int.toNat i5) dPart).1.2.2.1, (apas_19.getD (Int.toNat i5) dPart).1.2.2.2.1, (apas_19.getD (Int.toNat i5) dPart).1.2.2.2.2.1, r_7.2), (apas_19.getD (Int.toNat i5) dPart).2)
                              bif decide (0 ≤ i5) then
                                (bif decide (i5 < (↑apas_20.length : Int)) then
                                  (let apas_21 : List Part := apas_20.set (Int.toNat i5) ((apas_20.getD (Int.toNat i5) dPart).1, Int.tmod r_7.1 3 == 0)
                                  next (IntKind.i64.wrap (r_7.1 + 1)) (IntKind.i64.wrap (i5 + 1)) apas_21) else none) else none) else none) else none) else none) else none) else none) else none) else none) else none) else none) else none) else none) else none)
    else
      (some (k1, apa))
def laws_markClaimPartS_0 (N : Nat) : Nat → Int → Int → (List Part) → Option (Int × List Part) := lp (fun _ _ _ => none) fun next => laws_markClaimPartS_0r N next
def laws_markClaimPartSb (N : Nat) (I0 : Nat → Int → Int → (List Part) → Option (Int × List Part)) (a : List Part) (k0 : Int) : Option (Int × List Part) :=
  I0 N k0 0 a
def laws_markClaimPartS (N : Nat) (a : List Part) (k0 : Int) : Option (Int × List Part) := laws_markClaimPartSb N (laws_markClaimPartS_0 N) a k0
def laws_markClaimBook (N : Nat) (a0 : List Foe) (a1 : List Spot) (a2 : List Txt) (a3 : List Part) (a4 : Int) (k0 : Int) : Option (Int × List Foe × List Spot × List Txt × List Part) :=
  ob (F.laws_markClaimFoeS N a0 k0) (Int.ofNat 0, []) fun r =>
  ob (F.laws_markClaimSpotS N a1 r.1) (Int.ofNat 0, []) fun r_1 =>
  ob (F.laws_markStringS N a2 r_1.1) (Int.ofNat 0, []) fun r_2 =>
  ob (F.laws_markClaimPartS N a3 r_2.1) (Int.ofNat 0, []) fun r_3 =>
  some (r_3.1, r.2, r_1.2, r_2.2, r_3.2)
def laws_markIntS_0r (N : Nat) (next : Int → Int → (List Int) → Option (Int × List Int)) : Int → Int → (List Int) → Option (Int × List Int) := fun k1 i5 apa =>
    bif decide (i5 < (↑apa.length : Int)) then
      (bif decide (0 ≤ i5) then
        (bif decide (i5 < (↑apa.length : Int)) then
          (let apas_1 : List Int := apa.set (Int.toNat i5) k1
          next (IntKind.i64.wrap (k1 + 1)) (IntKind.i64.wrap (i5 + 1)) apas_1) else none) else none)
    else
      (some (k1, apa))
def laws_markIntS_0 (N : Nat) : Nat → Int → Int → (List Int) → Option (Int × List Int) := lp (fun _ _ _ => none) fun next => laws_markIntS_0r N next
def laws_markIntSb (N : Nat) (I0 : Nat → Int → Int → (List Int) → Option (Int × List Int)) (a : List Int) (k0 : Int) : Option (Int × List Int) :=
  I0 N k0 0 a
def laws_markIntS (N : Nat) (a : List Int) (k0 : Int) : Option (Int × List Int) := laws_markIntSb N (laws_markIntS_0 N) a k0
def laws_heldIntS_0r (N : Nat) (a : List Int) (next : Int → Int → Option Int) : Int → Int → Option Int := fun k1 i5 =>
    bif decide (i5 < (↑a.length : Int)) then
      (bif decide (0 ≤ i5) then
        (bif decide (i5 < (↑a.length : Int)) then
          (bif a.getD (Int.toNat i5) (Int.ofNat 0) != k1 then
            (some (-1))
          else
            (next (IntKind.i64.wrap (k1 + 1)) (IntKind.i64.wrap (i5 + 1)))) else none) else none)
    else
      (some k1)
def laws_heldIntS_0 (N : Nat) (a : List Int) : Nat → Int → Int → Option Int := lp (fun _ _ => none) fun next => laws_heldIntS_0r N a next
def laws_heldIntSb (N : Nat) (I0 : (List Int) → Nat → Int → Int → Option Int) (a : List Int) (k0 : Int) : Option Int :=
  I0 a N k0 0
def laws_heldIntS (N : Nat) (a : List Int) (k0 : Int) : Option Int := laws_heldIntSb N (laws_heldIntS_0 N) a k0
def laws_FnExactClaimShut (N : Nat) (aB : Book) (aValve : Txt) : Option Bool :=
  bif decide ((↑aValve.length : Int) > 1048576) then
    (some true)
  else
    (ob (F.laws_szClaimBook N aB 1048576) (Int.ofNat 0) fun r =>
    bif decide (r < 0) then
      (some true)
    else
      (ob (F.laws_toClaimBook N aB) ([], [], [], [], Int.ofNat 0) fun r_1 =>
      ob (F.spec_ClaimShut N r_1 aValve) [] fun r_2 =>
      ob (F.laws_toClaimBook N aB) default fun r_3 =>
      ob (F.impl_ClaimShut N r_1 aValve) [] fun r_4 =>
      ob (F.laws_eqIntS N r_4 r_2) false fun r_5 =>
      bif !r_5 then
        (some false)
      else
        (ob (F.laws_toClaimBook N aB) default fun r_6 =>
        ob (F.laws_eqClaimBook N r_1 r_1) false fun r_7 =>
        bif !r_7 then
          (some false)
        else
          (ob (F.laws_markClaimBook N r_1.1 r_1.2.1 r_1.2.2.1 r_1.2.2.2.1 r_1.2.2.2.2 1) (Int.ofNat 0, [], [], [], []) fun r_8 =>
          bif decide (r_8.1 < 0) then
            (some false)
          else
            (ob (F.laws_eqIntS N r_4 r_2) default fun r_9 =>
            bif !r_5 then
              (some false)
            else
              (ob (F.laws_markIntS N r_4 1) (Int.ofNat 0, []) fun r_10 =>
              ob (F.laws_heldIntS N r_10.2 1) (Int.ofNat 0) fun r_11 =>
              bif decide (r_11 < 0) then
                (some false)
              else
                (bif r_11 != r_10.1 then
                  (some false)
                else
                  (ob (F.laws_toClaimBook N aB) default fun r_12 =>
                  ob (F.impl_ClaimShut N r_1 aValve) default fun r_13 =>
                  ob (F.laws_eqIntS N r_4 r_2) default fun r_14 =>
                  bif !r_5 then
                    (some false)
                  else
                    (ob (F.laws_heldIntS N r_10.2 1) default fun r_15 =>
                    bif decide (r_11 < 0) then
                      (some false)
                    else
                      (bif r_11 != r_10.1 then
                        (some false)
                      else
                        (some true)))))))))))
end
end Go.MC.F


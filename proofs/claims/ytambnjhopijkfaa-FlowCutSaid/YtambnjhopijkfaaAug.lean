/- More along a path: plain. -/
import Derived.Test.YtambnjhopijkfaaPath
namespace Go.Proofs.Ytambnjhopijkfaa
open Go.RowKit
/-- Steps over which more can flow, from t back to s. -/
def Steps (l : List Edge) (f : List Int) (s : Int) : Int → List (Nat × Bool) → Prop
  | t, [] => t = s
  | t, p :: ps => t ≠ s ∧ Res l f p.1 p.2 (prevN l p) t ∧ Steps l f s (prevN l p) ps
theorem Res.prev {l : List Edge} {f : List Int} {j : Nat} {b : Bool} {u k : Int} (h : Res l f j b u k) : prevN l (j, b) = u := by
  obtain ⟨_, h⟩ := h
  cases b <;> simp at h <;> simp [prevN, h.1]
theorem Res.ends {l : List Edge} {f : List Int} {j : Nat} {b : Bool} {u k : Int} (h : Res l f j b u k) : ((edAt l j).src = u ∧ (edAt l j).dst = k) ∨ ((edAt l j).src = k ∧ (edAt l j).dst = u) := by
  obtain ⟨_, h⟩ := h
  cases b <;> simp at h
  · exact .inl ⟨h.1, h.2.1⟩
  · exact .inr ⟨h.2.1, h.1⟩
theorem BFS.path {l : List Edge} {f : List Int} {s : Int} {m : Int → Option (Int × Bool)} {ord : List Int} (h : BFS l f s m ord) : ∀ p k, ord[p]? = some k →
    ∃ ps, Follow l m s k ps ∧ Steps l f s k ps ∧ (∀ q ∈ ps, (edAt l q.1).src ∈ ord.take (p + 1) ∧ (edAt l q.1).dst ∈ ord.take (p + 1)) ∧ (ps.map (·.1)).Nodup ∧ ps.length ≤ p := by
  intro p
  induction p using Nat.strongRecOn with
  | _ p ih =>
    intro k hk
    have hp : p < ord.length := (List.getElem?_eq_some_iff.1 hk).1
    rcases Nat.eq_zero_or_pos p with rfl | h0
    · obtain ⟨r, hr⟩ := h.head
      have hks : k = s := by rw [hr] at hk; simpa using hk.symm
      subst hks
      exact ⟨[], rfl, rfl, by simp, by simp, by simp⟩
    · obtain ⟨j, b, u, a1, a2, a3⟩ := h.step p k hk h0
      obtain ⟨p', hp', hu⟩ := List.mem_iff_getElem.1 a3
      rw [List.length_take] at hp'
      have hu' : ord[p']? = some u := by
        rw [List.getElem_take] at hu
        rw [List.getElem?_eq_getElem (by omega), hu]
      obtain ⟨ps, b1, b2, b3, b4, b5⟩ := ih p' (by omega) u hu'
      have hsub : ∀ x, x ∈ ord.take (p' + 1) → x ∈ ord.take p := fun x hx => (List.take_subset_take_left ord (by omega)) hx
      have hno : ¬ k ∈ ord.take p := by
        intro hmem
        obtain ⟨q, hq, hqk⟩ := List.mem_iff_getElem.1 hmem
        rw [List.length_take] at hq
        rw [List.getElem_take] at hqk
        have h1 : ord[p]'hp = k := by rw [List.getElem?_eq_getElem hp] at hk; exact Option.some.inj hk
        have := (List.getElem_inj (h₀ := by omega) (h₁ := hp) h.nodup).1 (hqk.trans h1.symm)
        omega
      have hks : k ≠ s := by
        intro e
        subst e
        obtain ⟨r, hr⟩ := h.head
        apply hno
        rw [hr]
        cases p with
        | zero => omega
        | succ p => simp
      have hpr : prevN l (j, b) = u := a2.prev
      refine ⟨(j, b) :: ps, ⟨hks, a1, a2.1, by rw [hpr]; exact b1⟩, ⟨hks, by rw [hpr]; exact a2, by rw [hpr]; exact b2⟩, ?_, ?_, by simp; omega⟩
      · intro q hq
        have hkm : k ∈ ord.take (p + 1) := by rw [List.take_add_one, hk]; simp
        have hum : u ∈ ord.take (p + 1) := List.take_subset_take_left ord (by omega) a3
        rcases List.mem_cons.1 hq with rfl | hq
        · rcases a2.ends with ⟨e1, e2⟩ | ⟨e1, e2⟩ <;> (simp only; rw [e1, e2])
          · exact ⟨hum, hkm⟩
          · exact ⟨hkm, hum⟩
        · have := b3 q hq
          exact ⟨List.take_subset_take_left ord (by omega) this.1, List.take_subset_take_left ord (by omega) this.2⟩
      · rw [List.map_cons, List.nodup_cons]
        refine ⟨fun hmem => ?_, b4⟩
        obtain ⟨q, hq, hqj⟩ := List.mem_map.1 hmem
        have := b3 q hq
        simp only at hqj
        rw [hqj] at this
        rcases a2.ends with ⟨e1, e2⟩ | ⟨e1, e2⟩
        · rw [e2] at this; exact hno (hsub _ this.2)
        · rw [e1] at this; exact hno (hsub _ this.1)
/-- What can be added along a step. -/
def room (l : List Edge) (f : List Int) (p : Nat × Bool) : Int := if p.2 then numAt f p.1 else (edAt l p.1).cost - numAt f p.1
def applyS (n : Int) (f : List Int) (p : Nat × Bool) : List Int := f.set p.1 (numAt f p.1 + if p.2 then -n else n)
def augL (n : Int) (f : List Int) (ps : List (Nat × Bool)) : List Int := ps.foldl (applyS n) f
theorem applyS_length (n : Int) (f : List Int) (p : Nat × Bool) : (applyS n f p).length = f.length := by simp [applyS]
theorem augL_length (n : Int) : ∀ (ps : List (Nat × Bool)) (f : List Int), (augL n f ps).length = f.length
  | [], _ => rfl
  | p :: ps, f => by
    show (augL n (applyS n f p) ps).length = _
    rw [augL_length n ps, applyS_length]
theorem numAt_set (f : List Int) (j i : Nat) (y : Int) (hj : j < f.length) : numAt (f.set j y) i = if i = j then y else numAt f i := by
  unfold numAt
  rw [List.getD_eq_getElem?_getD, List.getElem?_set]
  by_cases h : j = i
  · subst h; simp [hj]
  · have : ¬ i = j := fun e => h e.symm
    simp [h, this]
theorem net_set (x : Int) : ∀ (l : List Edge) (f : List Int) (j : Nat) (y : Int), f.length = l.length → j < l.length →
    net l (f.set j y) x = net l f x + (if (edAt l j).src = x then y - numAt f j else 0) - (if (edAt l j).dst = x then y - numAt f j else 0)
  | [], _, j, _, _, h => by simp at h
  | a :: l, [], _, _, h, _ => by simp at h
  | a :: l, z :: f, 0, y, _, _ => by
    simp only [List.set_cons_zero, net, edAt, numAt, List.getD_cons_zero]
    split <;> split <;> omega
  | a :: l, z :: f, j + 1, y, h, hj => by
    have ih := net_set x l f j y (by simpa using h) (by simpa using hj)
    simp only [List.set_cons_succ, net, edAt_cons_succ, numAt_cons_succ, ih]
    split <;> split <;> split <;> split <;> omega
theorem net_apply {l : List Edge} {f g : List Int} {j : Nat} {b : Bool} {u k : Int} (n x : Int) (h : Res l f j b u k) (hg : g.length = l.length) :
    net l (applyS n g (j, b)) x = net l g x + (if x = u then n else 0) - (if x = k then n else 0) := by
  unfold applyS
  simp only
  rw [net_set x l g j _ hg h.1]
  obtain ⟨_, h⟩ := h
  cases b
  · simp at h
    rw [h.1, h.2.1]
    have e1 : (u = x) = (x = u) := propext ⟨Eq.symm, Eq.symm⟩
    have e2 : (k = x) = (x = k) := propext ⟨Eq.symm, Eq.symm⟩
    simp only [e1, e2, Bool.false_eq_true, if_false]
    split <;> split <;> omega
  · simp at h
    rw [h.1, h.2.1]
    have e1 : (u = x) = (x = u) := propext ⟨Eq.symm, Eq.symm⟩
    have e2 : (k = x) = (x = k) := propext ⟨Eq.symm, Eq.symm⟩
    simp only [e1, e2, if_true]
    split <;> split <;> omega
theorem net_aug {l : List Edge} {f : List Int} {s : Int} (n x : Int) : ∀ (ps : List (Nat × Bool)) (t : Int) (g : List Int), Steps l f s t ps → g.length = l.length →
    net l (augL n g ps) x = net l g x + (if x = s then n else 0) - (if x = t then n else 0)
  | [], t, g, h, _ => by
    have : t = s := h
    subst this
    show net l g x = _
    split <;> omega
  | p :: ps, t, g, h, hg => by
    obtain ⟨_, h2, h3⟩ := h
    have ih := net_aug n x ps (prevN l p) (applyS n g p) h3 (by rw [applyS_length]; exact hg)
    show net l (augL n (applyS n g p) ps) x = _
    have ha := net_apply (g := g) n x h2 hg
    rw [ih]
    rw [show applyS n g p = applyS n g (p.1, p.2) from rfl, ha]
    omega
theorem aug_other (n : Int) : ∀ (ps : List (Nat × Bool)) (g : List Int) (i : Nat), (∀ p ∈ ps, p.1 < g.length) → ¬ i ∈ ps.map (·.1) → numAt (augL n g ps) i = numAt g i
  | [], _, _, _, _ => rfl
  | p :: ps, g, i, hb, hn => by
    simp only [List.map_cons, List.mem_cons, not_or] at hn
    show numAt (augL n (applyS n g p) ps) i = _
    rw [aug_other n ps _ i (fun q hq => by rw [applyS_length]; exact hb q (by simp [hq])) hn.2]
    unfold applyS
    rw [numAt_set _ _ _ _ (hb p (by simp)), if_neg hn.1]
theorem aug_at (n : Int) : ∀ (ps : List (Nat × Bool)) (g : List Int) (p : Nat × Bool), (∀ p ∈ ps, p.1 < g.length) → (ps.map (·.1)).Nodup → p ∈ ps → numAt (augL n g ps) p.1 = numAt g p.1 + if p.2 then -n else n
  | [], _, _, _, _, h => by cases h
  | q :: ps, g, p, hb, hn, hp => by
    rw [List.map_cons, List.nodup_cons] at hn
    have hb' : ∀ r ∈ ps, r.1 < (applyS n g q).length := fun r hr => by rw [applyS_length]; exact hb r (by simp [hr])
    show numAt (augL n (applyS n g q) ps) p.1 = _
    rcases List.mem_cons.1 hp with rfl | hp
    · rw [aug_other n ps _ _ hb' hn.1]
      unfold applyS
      rw [numAt_set _ _ _ _ (hb p (by simp)), if_pos rfl]
    · rw [aug_at n ps _ p hb' hn.2 hp]
      unfold applyS
      rw [numAt_set _ _ _ _ (hb q (by simp)), if_neg (fun e => hn.1 (by rw [← e]; exact List.mem_map.2 ⟨p, hp, rfl⟩))]
theorem Steps.res {l : List Edge} {f : List Int} {s : Int} : ∀ {ps : List (Nat × Bool)} {t : Int}, Steps l f s t ps → ∀ p ∈ ps, p.1 < l.length ∧ 0 < room l f p
  | [], _, _, _, h => by cases h
  | q :: ps, t, h, p, hp => by
    obtain ⟨_, h2, h3⟩ := h
    rcases List.mem_cons.1 hp with rfl | hp
    · refine ⟨h2.1, ?_⟩
      obtain ⟨_, h⟩ := h2
      unfold room
      cases hb : p.2 <;> rw [hb] at h <;> simp at h ⊢ <;> omega
    · exact h3.res p hp
/-- The flow is greater by n. -/
theorem IsFlow.aug {l : List Edge} {f : List Int} {s t : Int} {ps : List (Nat × Bool)} {n : Int} (h : IsFlow l f s t) (hs : Steps l f s t ps) (hd : (ps.map (·.1)).Nodup) (hn : ∀ p ∈ ps, n ≤ room l f p) (h0 : 0 ≤ n) (hst : s ≠ t) :
    IsFlow l (augL n f ps) s t ∧ net l (augL n f ps) s = net l f s + n := by
  have hb : ∀ p ∈ ps, p.1 < f.length := fun p hp => by rw [h.len]; exact (hs.res p hp).1
  refine ⟨⟨by rw [augL_length]; exact h.len, fun i hi => ?_, fun k h1 h2 => ?_⟩, ?_⟩
  · have hc := h.cap i hi
    by_cases hm : i ∈ ps.map (·.1)
    · obtain ⟨p, hp, rfl⟩ := List.mem_map.1 hm
      rw [aug_at n ps f p hb hd hp]
      have := hn p hp
      unfold room at this
      cases hpb : p.2 <;> rw [hpb] at this <;> simp at this ⊢ <;> omega
    · rw [aug_other n ps f i hb hm]; exact hc
  · rw [net_aug n k ps t f hs h.len, h.bal k h1 h2, if_neg h1, if_neg h2]; omega
  · rw [net_aug n s ps t f hs h.len, if_pos rfl, if_neg hst]; omega
end Go.Proofs.Ytambnjhopijkfaa

/- Proved here: plain words on least costs in a graph. -/
import Derived.Test.YtmnkgcnhmkggkaaOrderTh
namespace Go.Proofs.Ytmnkgcnhmkggkaa
open Go.RowKit
abbrev CK := Nat × Nat
/-- Earlier in the order by cost, then by edges. -/
def ltC (a b : CK) : Prop := a.1 < b.1 ∨ a.1 = b.1 ∧ a.2 < b.2
def leC (a b : CK) : Prop := ¬ ltC b a
instance (a b : CK) : Decidable (ltC a b) := by unfold ltC; infer_instance
instance (a b : CK) : Decidable (leC a b) := by unfold leC; infer_instance
theorem leC_iff {a b : CK} : leC a b ↔ a.1 < b.1 ∨ a.1 = b.1 ∧ a.2 ≤ b.2 := by unfold leC ltC; omega
theorem leC_refl (a : CK) : leC a a := by rw [leC_iff]; omega
theorem leC_trans {a b c : CK} (h : leC a b) (k : leC b c) : leC a c := by rw [leC_iff] at *; omega
theorem leC_antisymm {a b : CK} (h : leC a b) (k : leC b a) : a = b := by
  rw [leC_iff] at *
  obtain ⟨a1, a2⟩ := a
  obtain ⟨b1, b2⟩ := b
  simp only [Prod.mk.injEq] at *
  omega
def addC (e : Edge) (v : CK) : CK := (v.1 + e.cost.toNat, v.2 + 1)
theorem addC_le {e : Edge} {a b : CK} (h : leC a b) : leC (addC e a) (addC e b) := by
  rw [leC_iff] at *; simp only [addC]; omega
theorem addC_lt (e : Edge) (v : CK) : ltC v (addC e v) := by unfold ltC addC; dsimp only; omega
theorem addC_inj {e : Edge} {a b : CK} (h : addC e a = addC e b) : a = b := by
  obtain ⟨a1, a2⟩ := a
  obtain ⟨b1, b2⟩ := b
  simp only [addC, Prod.mk.injEq] at *
  omega
/-- A way of that cost from u to t. -/
inductive Walk (l : List Edge) (t : Int) : Int → CK → Prop
  | nil : Walk l t t (0, 0)
  | cons (e : Edge) (v : CK) : e ∈ l → Walk l t e.dst v → Walk l t e.src (addC e v)
/-- Least costs. -/
structure Best (l : List Edge) (t : Int) (b : Int → Option CK) : Prop where
  sound : ∀ u v, b u = some v → Walk l t u v
  least : ∀ u v, Walk l t u v → ∃ x, b u = some x ∧ leC x v
theorem Best.uniq {l : List Edge} {t : Int} {b b' : Int → Option CK} (h : Best l t b) (k : Best l t b') : ∀ u, b u = b' u := by
  intro u
  cases hb : b u with
  | none =>
    cases hb' : b' u with
    | none => rfl
    | some v =>
      obtain ⟨x, hx, _⟩ := h.least u v (k.sound u v hb')
      rw [hb] at hx; cases hx
  | some v =>
    obtain ⟨x, hx, h1⟩ := k.least u v (h.sound u v hb)
    obtain ⟨y, hy, h2⟩ := h.least u x (k.sound u x hx)
    rw [hb] at hy
    cases hy
    rw [hx, leC_antisymm h1 h2]
def Relaxed (b : Int → Option CK) (e : Edge) : Prop := ∀ v, b e.dst = some v → ∃ x, b e.src = some x ∧ leC x (addC e v)
theorem best_of {l : List Edge} {t : Int} {b : Int → Option CK} (h0 : ∃ x, b t = some x ∧ leC x (0, 0)) (hs : ∀ u v, b u = some v → Walk l t u v) (hr : ∀ e ∈ l, Relaxed b e) : Best l t b := by
  refine ⟨hs, fun u v hw => ?_⟩
  induction hw with
  | nil => exact h0
  | cons e v he _ ih =>
    obtain ⟨x, hx, hle⟩ := ih
    obtain ⟨y, hy, h2⟩ := hr e he x hx
    exact ⟨y, hy, leC_trans h2 (addC_le hle)⟩
/-- A path by edges. -/
def isPath (t : Int) : Int → List Edge → Prop
  | u, [] => u = t
  | u, e :: p => e.src = u ∧ isPath t e.dst p
def pval : List Edge → CK
  | [] => (0, 0)
  | e :: p => addC e (pval p)
theorem isPath.walk {l : List Edge} {t : Int} : ∀ {p : List Edge} {u : Int}, isPath t u p → (∀ e ∈ p, e ∈ l) → Walk l t u (pval p)
  | [], u, h, _ => by
    have : u = t := h
    subst this
    exact Walk.nil
  | e :: p, u, h, hl => by
    obtain ⟨rfl, h⟩ := h
    exact Walk.cons e _ (hl e (by simp)) (isPath.walk h fun x hx => hl x (by simp [hx]))
/-- What is laid down of a way: no node twice, and each node on it has a cost that is no more. -/
structure Wit (l : List Edge) (t : Int) (b : Int → Option CK) (u : Int) (v : CK) (p : List Edge) : Prop where
  path : isPath t u p
  sub : ∀ e ∈ p, e ∈ l
  val : pval p = v
  nodup : (p.map (·.src)).Nodup
  low : ∀ p1 e q, p = p1 ++ e :: q → ∃ x, b e.src = some x ∧ leC x (pval (e :: q))
structure Lab (l : List Edge) (t : Int) (b : Int → Option CK) : Prop where
  zero : b t = some (0, 0)
  wit : ∀ u v, b u = some v → ∃ p, Wit l t b u v p
def updC (b : Int → Option CK) (u : Int) (v : CK) : Int → Option CK := fun x => if x = u then some v else b x
theorem Lab.start (l : List Edge) (t : Int) : Lab l t (fun x => if x = t then some (0, 0) else none) := by
  refine ⟨by simp, fun u v h => ?_⟩
  by_cases hu : u = t
  · simp [hu] at h
    refine ⟨[], hu, by simp, h, by simp, fun p1 e q hp => ?_⟩
    simp at hp
  · simp [hu] at h
theorem pval_suffix : ∀ (p1 q : List Edge), leC (pval q) (pval (p1 ++ q))
  | [], q => leC_refl _
  | e :: p1, q => by
    have := pval_suffix p1 q
    refine leC_trans this ?_
    show leC (pval (p1 ++ q)) (addC e (pval (p1 ++ q)))
    rw [leC_iff]; unfold addC; dsimp only; omega
/-- A way that is better is laid down. -/
theorem Lab.step {l : List Edge} {t : Int} {b : Int → Option CK} (h : Lab l t b) {e : Edge} {v : CK} (he : e ∈ l) (hv : b e.dst = some v) (hlt : ∀ x, b e.src = some x → ltC (addC e v) x) : Lab l t (updC b e.src (addC e v)) := by
  have hmono : ∀ u x, b u = some x → ∃ y, updC b e.src (addC e v) u = some y ∧ leC y x := by
    intro u x hx
    unfold updC
    by_cases hu : u = e.src
    · subst hu
      exact ⟨_, if_pos rfl, by rw [leC_iff]; have := hlt x hx; unfold ltC at this; omega⟩
    · exact ⟨x, by rw [if_neg hu]; exact hx, leC_refl x⟩
  have hzero : e.src ≠ t := fun hs => by
    have := hlt (0, 0) (by rw [hs]; exact h.zero)
    unfold ltC addC at this; dsimp only at this; omega
  refine ⟨by unfold updC; rw [if_neg (fun h' => hzero h'.symm)]; exact h.zero, fun u x hx => ?_⟩
  by_cases hu : u = e.src
  · subst hu
    simp only [updC, if_true, Option.some.injEq] at hx
    subst hx
    obtain ⟨p, hp⟩ := h.wit _ _ hv
    refine ⟨e :: p, ⟨rfl, hp.path⟩, fun x hx => ?_, by show addC e (pval p) = _; rw [hp.val], ?_, fun p1 e' q hq => ?_⟩
    · rcases List.mem_cons.1 hx with rfl | hx
      · exact he
      · exact hp.sub x hx
    · rw [List.map_cons, List.nodup_cons]
      refine ⟨fun hm => ?_, hp.nodup⟩
      obtain ⟨e', he', hs⟩ := List.mem_map.1 hm
      obtain ⟨p1, q, hpq⟩ := List.append_of_mem he'
      obtain ⟨x, hx, hle⟩ := hp.low p1 e' q hpq
      rw [hs] at hx
      have h1 := hlt x hx
      have h2 := pval_suffix p1 (e' :: q)
      rw [← hpq, hp.val] at h2
      have h3 := addC_lt e v
      have h4 := leC_trans hle h2
      rw [leC_iff] at h4
      unfold ltC at h1 h3
      omega
    · cases p1 with
      | nil =>
        simp only [List.nil_append, List.cons.injEq] at hq
        obtain ⟨rfl, rfl⟩ := hq
        exact ⟨_, if_pos rfl, by show leC _ (addC e (pval p)); rw [hp.val]; exact leC_refl _⟩
      | cons a p1 =>
        simp only [List.cons_append, List.cons.injEq] at hq
        obtain ⟨rfl, hq⟩ := hq
        obtain ⟨x, hx, hle⟩ := hp.low p1 e' q hq
        obtain ⟨y, hy, hle2⟩ := hmono _ _ hx
        exact ⟨y, hy, leC_trans hle2 hle⟩
  · have hbx : b u = some x := by simpa [updC, hu] using hx
    obtain ⟨p, hp⟩ := h.wit u x hbx
    refine ⟨p, hp.path, hp.sub, hp.val, hp.nodup, fun p1 e' q hq => ?_⟩
    obtain ⟨y, hy, hle⟩ := hp.low p1 e' q hq
    obtain ⟨z, hz, hle2⟩ := hmono _ _ hy
    exact ⟨z, hz, leC_trans hle2 hle⟩
theorem pval_le {l : List Edge} (hr : Right l) : ∀ (p : List Edge), (∀ e ∈ p, e ∈ l) → (pval p).1 ≤ 1000000 * p.length ∧ (pval p).2 = p.length
  | [], _ => ⟨by simp [pval], rfl⟩
  | e :: p, h => by
    obtain ⟨a, b⟩ := pval_le hr p fun x hx => h x (by simp [hx])
    have := hr.ok e (h e (by simp))
    unfold EdgeOk at this
    simp only [pval, addC, List.length_cons]
    omega
theorem nodup_of_src {p : List Edge} (h : (p.map (·.src)).Nodup) : p.Nodup := by
  induction p with
  | nil => exact List.nodup_nil
  | cons e p ih =>
    rw [List.map_cons, List.nodup_cons] at h
    rw [List.nodup_cons]
    exact ⟨fun hm => h.1 (List.mem_map.2 ⟨e, hm, rfl⟩), ih h.2⟩
theorem Wit.le {l : List Edge} {t : Int} {b : Int → Option CK} {u : Int} {v : CK} {p : List Edge} (hr : Right l) (h : Wit l t b u v p) : v.1 ≤ 200000000 ∧ v.2 ≤ 200 := by
  have h1 := pval_le hr p h.sub
  have h2 := IMap.nodup_le (nodup_of_src h.nodup) h.sub
  have h3 := hr.len
  rw [← h.val]
  omega
theorem Lab.le {l : List Edge} {t : Int} {b : Int → Option CK} (h : Lab l t b) (hr : Right l) {u : Int} {v : CK} (hv : b u = some v) : v.1 ≤ 200000000 ∧ v.2 ≤ 200 := by
  obtain ⟨p, hp⟩ := h.wit u v hv
  exact hp.le hr
theorem Lab.best {l : List Edge} {t : Int} {b : Int → Option CK} (h : Lab l t b) (hr : ∀ e ∈ l, Relaxed b e) : Best l t b :=
  best_of ⟨_, h.zero, leC_refl _⟩ (fun u v hv => by
    obtain ⟨p, hp⟩ := h.wit u v hv
    rw [← hp.val]
    exact hp.path.walk hp.sub) hr
/-- How much may still fall. -/
def rankC : Option CK → Nat
  | none => 201 * 200000001
  | some v => v.1 * 201 + v.2
def sumC (b : Int → Option CK) : List Int → Nat
  | [] => 0
  | x :: xs => rankC (b x) + sumC b xs
def phiC (l : List Edge) (b : Int → Option CK) : Nat := sumC b (nodesL l)
theorem sumC_le {b b' : Int → Option CK} (h : ∀ x, rankC (b' x) ≤ rankC (b x)) : ∀ (xs : List Int), sumC b' xs ≤ sumC b xs
  | [] => Nat.le_refl _
  | x :: xs => by
    have := sumC_le h xs
    have := h x
    unfold sumC; omega
theorem sumC_lt {b b' : Int → Option CK} (h : ∀ x, rankC (b' x) ≤ rankC (b x)) {u : Int} (hu : rankC (b' u) < rankC (b u)) : ∀ (xs : List Int), u ∈ xs → sumC b' xs < sumC b xs
  | [], hm => by simp at hm
  | x :: xs, hm => by
    have h1 := sumC_le h xs
    have h2 := h x
    unfold sumC
    rcases List.mem_cons.1 hm with rfl | hm
    · omega
    · have := sumC_lt h hu xs hm
      omega
theorem phi_step {l : List Edge} {t : Int} {b : Int → Option CK} (hr : Right l) (h : Lab l t b) {e : Edge} {v : CK} (he : e ∈ l) (hv : b e.dst = some v) (hlt : ∀ x, b e.src = some x → ltC (addC e v) x) :
    phiC l (updC b e.src (addC e v)) < phiC l b := by
  have hl := h.step he hv hlt
  have hle := hl.le hr (u := e.src) (v := addC e v) (by simp [updC])
  have key : rankC (updC b e.src (addC e v) e.src) < rankC (b e.src) := by
    have e1 : updC b e.src (addC e v) e.src = some (addC e v) := by simp [updC]
    rw [e1]
    cases hb : b e.src with
    | none =>
      show (addC e v).1 * 201 + (addC e v).2 < 201 * 200000001
      omega
    | some x =>
      have := hlt x hb
      unfold ltC at this
      show (addC e v).1 * 201 + (addC e v).2 < x.1 * 201 + x.2
      omega
  refine sumC_lt (fun x => ?_) key _ (src_mem he)
  by_cases hx : x = e.src
  · rw [hx]; omega
  · simp [updC, hx]
/-- The first edge that begins a best path. -/
def goodB (b : Int → Option CK) (u : Int) (e : Edge) : Bool := decide (e.src = u) && (match b e.dst with
  | none => false
  | some v => decide (b u = some (addC e v)))
inductive PathR (l : List Edge) (b : Int → Option CK) (t : Int) : Int → List Int → Prop
  | nil : PathR l b t t []
  | cons (u : Int) (e : Edge) (ids : List Int) : u ≠ t → l.find? (goodB b u) = some e → PathR l b t e.dst ids → PathR l b t u (e.id :: ids)
theorem PathR.uniq {l : List Edge} {b : Int → Option CK} {t u : Int} {x : List Int} (h : PathR l b t u x) : ∀ {y : List Int}, PathR l b t u y → x = y := by
  induction h with
  | nil =>
    intro y hy
    cases hy with
    | nil => rfl
    | cons _ e ids hne => exact absurd rfl hne
  | cons u e ids hne hf _ ih =>
    intro y hy
    cases hy with
    | nil => exact absurd rfl hne
    | cons _ e' ids' hne' hf' hp' =>
      rw [hf] at hf'
      cases hf'
      rw [ih hp']
theorem Walk.zero {l : List Edge} {t u : Int} {v : CK} (h : Walk l t u v) (h0 : v.2 = 0) : u = t := by
  cases h with
  | nil => rfl
  | cons e v _ _ => simp [addC] at h0
theorem Best.zero {l : List Edge} {t : Int} {b : Int → Option CK} (h : Best l t b) : b t = some (0, 0) := by
  obtain ⟨x, hx, hle⟩ := h.least t (0, 0) Walk.nil
  rw [leC_iff] at hle
  rw [hx]
  congr 1
  obtain ⟨x1, x2⟩ := x
  simp only [Prod.mk.injEq] at *
  omega
/-- Where a best path goes on. -/
theorem Best.next {l : List Edge} {t u : Int} {b : Int → Option CK} (h : Best l t b) {v : CK} (hv : b u = some v) (hne : u ≠ t) :
    ∃ e x, l.find? (goodB b u) = some e ∧ e ∈ l ∧ e.src = u ∧ b e.dst = some x ∧ v = addC e x := by
  have hex : ∃ e ∈ l, goodB b u e = true := by
    have hw := h.sound u v hv
    cases hw with
    | nil => exact absurd rfl hne
    | cons e x he hw =>
      obtain ⟨y, hy, hle⟩ := h.least _ _ hw
      obtain ⟨z, hz, hle2⟩ := h.least _ _ (Walk.cons e y he (h.sound _ _ hy))
      rw [hv] at hz
      cases hz
      have := leC_antisymm hle2 (addC_le hle)
      refine ⟨e, he, ?_⟩
      unfold goodB
      rw [hy]
      simp [hv, this]
  cases hf : l.find? (goodB b u) with
  | none =>
    obtain ⟨e, he, hg⟩ := hex
    rw [List.find?_eq_none] at hf
    exact absurd hg (hf e he)
  | some e =>
    have hg := List.find?_some hf
    have hm := List.mem_of_find?_eq_some hf
    unfold goodB at hg
    rw [Bool.and_eq_true] at hg
    obtain ⟨h1, h2⟩ := hg
    cases hd : b e.dst with
    | none => rw [hd] at h2; simp at h2
    | some x =>
      rw [hd] at h2
      simp only [decide_eq_true_eq] at h1 h2
      rw [hv] at h2
      exact ⟨e, x, rfl, hm, h1, hd, Option.some.inj h2⟩
/-- What Shortest returns. -/
def ShortR (l : List Edge) (from_ to_ : Int) (ids : List Int) (n : Int) (ok : Bool) : Prop :=
  ∃ b, Best l to_ b ∧ ((b from_ = none ∧ ids = [] ∧ n = 0 ∧ ok = false) ∨ ∃ v : CK, b from_ = some v ∧ PathR l b to_ from_ ids ∧ n = v.1 ∧ ok = true)
theorem ShortR.uniq {l : List Edge} {f t : Int} {x y : List Int} {n m : Int} {o p : Bool} (h : ShortR l f t x n o) (k : ShortR l f t y m p) : x = y ∧ n = m ∧ o = p := by
  obtain ⟨b, hb, h⟩ := h
  obtain ⟨b', hb', k⟩ := k
  obtain rfl : b = b' := funext (hb.uniq hb')
  rcases h with ⟨h1, rfl, rfl, rfl⟩ | ⟨v, h1, h2, rfl, rfl⟩ <;> rcases k with ⟨k1, rfl, rfl, rfl⟩ | ⟨v', k1, k2, rfl, rfl⟩
  · exact ⟨rfl, rfl, rfl⟩
  · rw [h1] at k1; cases k1
  · rw [h1] at k1; cases k1
  · rw [h1] at k1; cases k1
    exact ⟨h2.uniq k2, rfl, rfl⟩
end Go.Proofs.Ytmnkgcnhmkggkaa

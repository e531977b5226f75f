/- Proved here: the map of lists that graph.Reach makes keeps its lists apart when one of them grows. Conditions stand in the theorems. -/
import Derived.Test.YtoeiongnjogpeaaOwnAll
import Derived.Test.YtoeiongnjogpeaaIMap
namespace Go.Proofs.Ytoeiongnjogpeaa
open Go.RowKit
def succL (E : List Edge) (k : Int) : List Int := (E.filter (fun e => e.src == k)).map (·.dst)
theorem succL_append (E : List Edge) (e : Edge) (k : Int) : succL (E ++ [e]) k = succL E k ++ if e.src = k then [e.dst] else [] := by
  unfold succL
  rw [List.filter_append, List.map_append]
  congr 1
  by_cases h : e.src = k <;> simp [h]
def nilV : Value := .slice none 0 0
/-- The map in block bm holds, for each node, where its edges lead; each list lies in a row of its own. -/
structure NX (w wr : World) (bm n : Nat) (m : Int → Option Value) (E : List Edge) : Prop where
  im : IMap.IM wr bm n m
  base : w.heap.size ≤ bm
  own : ∀ k, OwnS 3 1 wr w.heap.size ((m k).getD nilV) (succL E k).length ((succL E k).map (Value.int .i64))
  apart : ∀ k k', k ≠ k' → ∀ j, ((m k).getD nilV).ownBlock = some j → ((m k').getD nilV).ownBlock ≠ some j
  keys : ∀ k, (m k).isSome = true → ∃ e ∈ E, e.src = k
  below : Below w.heap.size w wr
theorem NX.of_below {w wr wd : World} {bm n : Nat} {m : Int → Option Value} {E : List Edge} (h : NX w wr bm n m E) (hb : Below wr.heap.size wr wd) : NX w wd bm n m E :=
  ⟨h.im.below hb h.im.lt, h.base, fun k => (h.own k).below hb, h.apart, h.keys, below_in h.below hb h.below.size⟩
theorem NX.grown {w wr wd : World} {bm n : Nat} {m : Int → Option Value} {E : List Edge} (h : NX w wr bm n m E) {row : Option Nat} (hg : wr.grownBy wd row) (hB : ∀ j, row = some j → w.heap.size ≤ j) (hm : some bm ≠ row)
    (hne : ∀ k j, ((m k).getD nilV).ownBlock = some j → some j ≠ row) : NX w wd bm n m E :=
  ⟨h.im.kept hg hm, h.base, fun k => (h.own k).grown hg (fun j hj => hne k j hj), h.apart, h.keys, h.below.grown hg h.below.size hB⟩
theorem OwnS.not_map {e : TypeId} {size : Nat} {w : World} {B n : Nat} {v : Value} {xs : List Value} (h : OwnS e size w B v n xs) {b : Nat} {es : Array MapEntry} {c : Nat} (hb : w.heap[b]? = some (.map es c)) {j : Nat} (hj : v.ownBlock = some j) : j ≠ b := by
  intro e'
  obtain ⟨_, _, cur, hc⟩ := h.block hj
  rw [e', hb] at hc
  cases hc
theorem NX.step {w wr wa wb wc : World} {bm n n' : Nat} {m : Int → Option Value} {E : List Edge} (h : NX w wr bm n m E) (e : Edge) {v' : Value} (hwa : Below wr.heap.size wr wa)
    (ho : OwnS 3 1 wb w.heap.size v' ((succL E e.src).length + 1) ((succL E e.src).map (Value.int .i64) ++ [.int .i64 e.dst])) (hg : wa.grownBy wb ((m e.src).getD nilV).ownBlock)
    (hor : v'.ownBlock = ((m e.src).getD nilV).ownBlock ∨ ∃ k, v'.ownBlock = some k ∧ wa.heap.size ≤ k)
    (hi : IMap.IM wc bm n' (IMap.upd m e.src (some v'))) (hgc : wb.grownBy wc (some bm)) : NX w wc bm n' (IMap.upd m e.src (some v')) (E ++ [e]) := by
  have ha := h.of_below hwa
  obtain ⟨es, ck, hbm, _⟩ := ha.im
  have hbmb : wb.heap[bm]? = some (.map es ck) := by
    rw [hg.block bm (Array.getElem?_eq_some_iff.1 hbm).1 (fun e' => (ha.own e.src).not_map hbm e'.symm rfl)]
    exact hbm
  have hupd : ∀ k, ((IMap.upd m e.src (some v')) k).getD nilV = if k = e.src then v' else (m k).getD nilV := fun k => by
    unfold IMap.upd
    split <;> rfl
  have hold : ∀ k, k ≠ e.src → ∀ j, ((m k).getD nilV).ownBlock = some j → j < wa.heap.size ∧ ((m e.src).getD nilV).ownBlock ≠ some j := fun k hk j hj =>
    ⟨((ha.own k).block hj).2.1, h.apart k e.src hk j hj⟩
  refine ⟨hi, h.base, fun k => ?_, fun k k' hkk j hj hj' => ?_, fun k hk => ?_, ?_⟩
  · rw [hupd, succL_append]
    by_cases hk : k = e.src
    · rw [if_pos hk, if_pos hk.symm, List.length_append, List.map_append, hk]
      exact ho.grown hgc (fun j hj e' => ho.not_map hbmb hj (by cases e'; rfl))
    · rw [if_neg hk, if_neg (fun e' => hk e'.symm), List.append_nil]
      have h1 := (ha.own k).grown hg (fun j hj e' => (hold k hk j hj).2 e'.symm)
      exact h1.grown hgc (fun j hj e' => h1.not_map hbmb hj (by cases e'; rfl))
  · rw [hupd] at hj hj'
    by_cases hk : k = e.src
    · have hk' : k' ≠ e.src := fun e' => hkk (hk.trans e'.symm)
      rw [if_pos hk] at hj
      rw [if_neg hk'] at hj'
      have := hold k' hk' j hj'
      rcases hor with h' | ⟨k2, h2, h3⟩
      · exact this.2 (h' ▸ hj)
      · rw [hj] at h2; cases h2; omega
    · rw [if_neg hk] at hj
      by_cases hk' : k' = e.src
      · rw [if_pos hk'] at hj'
        have := hold k hk j hj
        rcases hor with h' | ⟨k2, h2, h3⟩
        · exact this.2 (h' ▸ hj')
        · rw [hj'] at h2; cases h2; omega
      · rw [if_neg hk'] at hj'
        exact h.apart k k' hkk j hj hj'
  · unfold IMap.upd at hk
    split at hk
    · rename_i hk2; exact ⟨e, by simp, hk2.symm⟩
    · obtain ⟨e2, h1, h2⟩ := h.keys k hk
      exact ⟨e2, by simp [h1], h2⟩
  · have h1 : Below w.heap.size w wb := ha.below.grown hg ha.below.size (fun j hj => ((ha.own e.src).block hj).1)
    exact h1.grown hgc h1.size (fun j hj => by cases hj; exact h.base)
theorem NX.made (w : World) : NX w (w.alloc (.map #[] 0)) w.heap.size 0 (fun _ => none) [] :=
  ⟨IMap.IM.made w, Nat.le_refl _, fun k => OwnS.nil _ _ _ _, fun k k' _ j hj => by simp [nilV, Value.ownBlock] at hj, fun k hk => by simp at hk, (Below.refl _ _).alloc (Nat.le_refl _) _⟩
def seenM (S : List Int) : Int → Option Value := fun k => if k ∈ S then some (.bool true) else none
/-- What graph.Reach has seen, what it is still to look at. -/
structure RX (l : List Edge) (from_ S xs : List Int) : Prop where
  sub : ∀ x ∈ from_, x ∈ S ∨ x ∈ xs
  closed : ∀ e ∈ l, e.src ∈ S → e.dst ∈ S ∨ e.dst ∈ xs
  sound : ∀ T : Int → Prop, (∀ y ∈ from_, T y) → (∀ e ∈ l, T e.src → T e.dst) → ∀ x, x ∈ S ∨ x ∈ xs → T x
theorem RX.start (l : List Edge) (from_ : List Int) : RX l from_ [] from_ :=
  ⟨fun x hx => .inr hx, fun e _ h => by simp at h, fun T h1 _ x hx => hx.elim (fun h => by simp at h) (fun h => h1 x h)⟩
theorem RX.skip {l : List Edge} {from_ S ys : List Int} {x : Int} (h : RX l from_ S (ys ++ [x])) (hx : x ∈ S) : RX l from_ S ys := by
  have key : ∀ y, y ∈ S ∨ y ∈ ys ++ [x] → y ∈ S ∨ y ∈ ys := fun y hy => by
    rcases hy with h | h
    · exact .inl h
    · rcases List.mem_append.1 h with h | h
      · exact .inr h
      · simp at h; subst h; exact .inl hx
  exact ⟨fun y hy => key y (h.sub y hy), fun e he hs => key _ (h.closed e he hs), fun T h1 h2 y hy => h.sound T h1 h2 y (hy.imp_right (fun h => List.mem_append_left _ h))⟩
theorem RX.visit {l : List Edge} {from_ S ys : List Int} {x : Int} (h : RX l from_ S (ys ++ [x])) : RX l from_ (x :: S) (ys ++ succL l x) := by
  have key : ∀ y, y ∈ S ∨ y ∈ ys ++ [x] → y ∈ x :: S ∨ y ∈ ys ++ succL l x := fun y hy => by
    rcases hy with h | h
    · exact .inl (by simp [h])
    · rcases List.mem_append.1 h with h | h
      · exact .inr (List.mem_append_left _ h)
      · simp at h; subst h; exact .inl (by simp)
  have hsucc : ∀ y, y ∈ succL l x ↔ ∃ e ∈ l, e.src = x ∧ e.dst = y := fun y => by
    unfold succL
    simp only [List.mem_map, List.mem_filter, beq_iff_eq]
    constructor
    · rintro ⟨e, ⟨h1, h2⟩, h3⟩; exact ⟨e, h1, h2, h3⟩
    · rintro ⟨e, h1, h2, h3⟩; exact ⟨e, ⟨h1, h2⟩, h3⟩
  refine ⟨fun y hy => key y (h.sub y hy), fun e he hs => ?_, fun T h1 h2 y hy => ?_⟩
  · rcases List.mem_cons.1 hs with hs | hs
    · exact .inr (List.mem_append_right _ ((hsucc _).2 ⟨e, he, hs, rfl⟩))
    · exact key _ (h.closed e he hs)
  · have hx : T x := h.sound T h1 h2 x (.inr (by simp))
    rcases hy with hy | hy
    · rcases List.mem_cons.1 hy with rfl | hy
      · exact hx
      · exact h.sound T h1 h2 y (.inl hy)
    · rcases List.mem_append.1 hy with hy | hy
      · exact h.sound T h1 h2 y (.inr (List.mem_append_left _ hy))
      · obtain ⟨e, he, hs, rfl⟩ := (hsucc y).1 hy
        exact h2 e he (hs ▸ hx)
def openE (l : List Edge) (S : List Int) : Nat := (l.filter (fun e => !decide (e.src ∈ S))).length
theorem openE_visit {S : List Int} {x : Int} (hx : ¬ x ∈ S) : ∀ l : List Edge, (succL l x).length + openE l (x :: S) = openE l S
  | [] => rfl
  | e :: l => by
    have ih := openE_visit hx l
    unfold openE succL at *
    by_cases h1 : e.src = x
    · simp [h1, hx] at ih ⊢; omega
    · by_cases h2 : e.src ∈ S
      · simp [h1, h2] at ih ⊢; omega
      · simp [h1, h2] at ih ⊢; omega
theorem openE_start (l : List Edge) : openE l [] = l.length := by simp [openE]
structure SX (l : List Edge) (w wr : World) (bm bs n ns : Nat) (m : Int → Option Value) (S xs : List Int) (sv : Value) : Prop where
  nx : NX w wr bm n m l
  seen : IMap.IM wr bs ns (seenM S)
  bsb : w.heap.size ≤ bs ∧ bs ≠ bm
  stk : OwnS 3 1 wr w.heap.size sv xs.length (xs.map (Value.int .i64))
  ne : ∀ k j, ((m k).getD nilV).ownBlock = some j → sv.ownBlock ≠ some j
end Go.Proofs.Ytoeiongnjogpeaa

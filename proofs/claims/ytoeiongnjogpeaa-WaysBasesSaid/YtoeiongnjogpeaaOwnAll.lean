/- A slice of the call's own, which may begin inside its block: append, read, store, cut. Proved here: append of many elements to a slice of the call's own, and its cut to the first elements. Condition: nothing else holds its cells. A slice of the call's own reads as numbers; a new slice of numbers; append behind a guard. Proved here: append of one number to a slice of the call's own, as a step of a walk. append of a whole slice to a slice of the call's own. -/
import Derived.Test.YtoeiongnjogpeaaBase
import Derived.ArgAppend
import Derived.Maps.AppendAt
import Derived.Laws.Slices
import Derived.Laws.OwnMore
import Derived.Test.YtoeiongnjogpeaaChecked
namespace Go.Proofs.Ytoeiongnjogpeaa
open Go.RowKit

/-- The slice v has n elements (type e, size cells each), whose cells are xs; its array lies in a block from B on. -/
def OwnS (e : TypeId) (size : Nat) (w : World) (B : Nat) (v : Value) (n : Nat) (xs : List Value) : Prop :=
  xs.length = n * size ∧ ∃ A c, v = .slice A n c ∧ n ≤ c ∧ c ≤ maxLen ∧ ((A = none ∧ c = 0) ∨ ∃ g o cur, A = some ⟨g, o, none⟩ ∧ B ≤ g ∧ w.heap[g]? = some (.cells cur e (0, 0)) ∧ o + c * size ≤ cur.size ∧
    ∀ j u, xs[j]? = some u → cur[o + j]? = some u)
section
variable {e : TypeId} {size : Nat} {w w' : World} {B n : Nat} {v : Value} {xs : List Value}
theorem OwnS.nil (e : TypeId) (size : Nat) (w : World) (B : Nat) : OwnS e size w B (.slice none 0 0) 0 [] := ⟨by simp, none, 0, rfl, Nat.le_refl _, Nat.zero_le _, .inl ⟨rfl, rfl⟩⟩
theorem OwnS.of_row (h : w.ownsRow B e size v n xs) : OwnS e size w B v n xs := by
  obtain ⟨h1, h2⟩ := h
  rcases h2 with ⟨rfl, rfl⟩ | ⟨g, cap, cur, rfl, hB, hh, hn, hc, hs, ht⟩
  · exact ⟨h1, none, 0, rfl, Nat.le_refl _, Nat.zero_le _, .inl ⟨rfl, rfl⟩⟩
  · refine ⟨h1, _, cap, rfl, hn, hc, .inr ⟨g, 0, cur, rfl, hB, hh, by omega, fun j u hj => ?_⟩⟩
    rw [← ht, List.getElem?_take] at hj
    rw [Nat.zero_add, ← Array.getElem?_toList]
    split at hj
    · exact hj
    · cases hj
theorem OwnS.mono {B' : Nat} (h : OwnS e size w B v n xs) (hB : B' ≤ B) : OwnS e size w B' v n xs := by
  obtain ⟨h1, A, c, hv, hn, hc, h2⟩ := h
  refine ⟨h1, A, c, hv, hn, hc, h2.imp_right ?_⟩
  rintro ⟨g, o, cur, hA, hg, r⟩
  exact ⟨g, o, cur, hA, by omega, r⟩
/-- What holds of the block holds on. -/
theorem OwnS.move (h : OwnS e size w B v n xs) (hb : ∀ k, v.ownBlock = some k → w'.heap[k]? = w.heap[k]?) : OwnS e size w' B v n xs := by
  obtain ⟨h1, A, c, rfl, hn, hc, h2⟩ := h
  refine ⟨h1, A, c, rfl, hn, hc, h2.imp_right ?_⟩
  rintro ⟨g, o, cur, rfl, hg, hh, r⟩
  exact ⟨g, o, cur, rfl, hg, (hb g rfl).trans hh, r⟩
theorem OwnS.block (h : OwnS e size w B v n xs) {k : Nat} (hk : v.ownBlock = some k) : B ≤ k ∧ k < w.heap.size ∧ ∃ cur, w.heap[k]? = some (.cells cur e (0, 0)) := by
  obtain ⟨h1, A, c, rfl, hn, hc, h2⟩ := h
  rcases h2 with ⟨rfl, rfl⟩ | ⟨g, o, cur, rfl, hg, hh, r⟩
  · cases hk
  · cases hk
    exact ⟨hg, (Array.getElem?_eq_some_iff.1 hh).1, cur, hh⟩
theorem OwnS.grown (h : OwnS e size w B v n xs) {row : Option Nat} (hg : w.grownBy w' row) (hne : ∀ k, v.ownBlock = some k → some k ≠ row) : OwnS e size w' B v n xs :=
  h.move fun k hk => hg.block k (h.block hk).2.1 (hne k hk)
theorem OwnS.below (h : OwnS e size w B v n xs) (hb : Below w.heap.size w w') : OwnS e size w' B v n xs := h.move fun k hk => hb.block k (h.block hk).2.1
theorem OwnS.alloc (h : OwnS e size w B v n xs) (o : Obj) : OwnS e size (w.alloc o) B v n xs := h.below (box_below w o)
theorem OwnS.drewN (h : OwnS e size w B v n xs) (m : Nat) : OwnS e size (w.drewN m) B v n xs := h
theorem OwnS.drew (h : OwnS e size w B v n xs) : OwnS e size w.drew B v n xs := h
theorem OwnS.slice (h : OwnS e size w B v n xs) : ∃ A c, v = .slice A n c ∧ n ≤ c ∧ c ≤ maxLen := by
  obtain ⟨h1, A, c, rfl, hn, hc, h2⟩ := h
  exact ⟨A, c, rfl, hn, hc⟩
theorem OwnS.cell {A : Option Addr} {c : Nat} (h : OwnS e size w B (.slice A n c) n xs) {j : Nat} {u : Value} (hj : xs[j]? = some u) : ∃ g o, A = some ⟨g, o, none⟩ ∧ w.cell? ⟨g, o + j, none⟩ = some u ∧ w.frozen? ⟨g, o + j, none⟩ = false := by
  obtain ⟨h1, A', c', hv, hn, hc, h2⟩ := h
  cases hv
  rcases h2 with ⟨rfl, rfl⟩ | ⟨g, o, cur, rfl, hg, hh, hs, hc⟩
  · have : n = 0 := by omega
    subst this
    have hx : xs = [] := List.eq_nil_of_length_eq_zero (by simpa using h1)
    subst hx
    cases hj
  · exact ⟨g, o, rfl, by simp [World.cell?, hh, hc j u hj], by simp [World.frozen?, hh]⟩
end
theorem setCells_block {b : Nat} {e : TypeId} : ∀ (vs : List Value) (o : Nat) (w : World) (cur : Array Value), w.heap[b]? = some (.cells cur e (0, 0)) → o + vs.length ≤ cur.size →
    ∃ cur', (w.setCells b o vs).heap[b]? = some (.cells cur' e (0, 0)) ∧ cur'.size = cur.size ∧ (∀ j, j < o → cur'[j]? = cur[j]?) ∧ (∀ j u, vs[j]? = some u → cur'[o + j]? = some u) ∧ w.grownBy (w.setCells b o vs) (some b)
  | [], o, w, cur, h, _ => ⟨cur, h, rfl, fun _ _ => rfl, fun j u hj => by simp at hj, World.grownBy.refl _ _⟩
  | u :: vs, o, w, cur, h, hl => by
    simp only [List.length_cons] at hl
    have h1 : (w.setCell ⟨b, o, none⟩ u).heap[b]? = some (.cells (cur.setIfInBounds o u) e (0, 0)) := by
      simp [World.setCell, Array.getElem?_modify, h]
    obtain ⟨cur', a1, a2, a3, a4, a5⟩ := setCells_block vs (o + 1) (w.setCell ⟨b, o, none⟩ u) _ h1 (by simp; omega)
    refine ⟨cur', a1, by simpa using a2, fun j hj => ?_, fun j x hx => ?_, ?_⟩
    · rw [a3 j (by omega), Array.getElem?_setIfInBounds]
      rw [if_neg (by omega)]
    · cases j with
      | zero =>
        simp at hx; subst hx
        rw [Nat.add_zero, a3 o (by omega), Array.getElem?_setIfInBounds, if_pos rfl, if_pos (by omega)]
      | succ j =>
        have := a4 j x (by simpa using hx)
        rwa [show o + 1 + j = o + (j + 1) by omega] at this
    · have h0 : w.grownBy (w.setCell ⟨b, o, none⟩ u) (some b) := ⟨rfl, rfl, rfl, by simp [World.setCell], fun k hk hne => Below.heap_setCell _ _ _ _ (fun hh => hne (by rw [hh]))⟩
      exact World.grownBy.trans h0 a5

theorem box_cells (W : World) (cs : Array Value) (t : TypeId) (b : Nat) (hb : b = W.heap.size) : ∀ i u, cs.toList[i]? = some u → (W.alloc (.cells cs t)).cell? ((⟨b, 0, none⟩ : Addr).add i) = some u := by
  intro i u hi
  subst hb
  rw [Addr.add_lit, Nat.zero_add]
  exact box_cell _ _ _ _ _ (by rw [← Array.getElem?_toList]; exact hi)
/-- append of one element, whose cells lie at ad. -/
theorem OwnS.append {P : Program} {e : TypeId} {size : Nat} {w : World} {B n : Nat} {v : Value} {xs : List Value} (h : OwnS e size w B v n xs)
    (t ty : TypeId) (i : TypeInfo) (z : Value) (bytes : Nat) (ht : P.underlying t = some (.slice e)) (hi : P.info? e = some i) (hz : i.zero = some z) (hsize : i.size = size) (hby : i.bytes = bytes) (hzs : z.cells.size = size) (hsz : 0 < size)
    (ad : Addr) (c : Nat) (news : List Value) (hl : news.length = size) (hnews : ∀ j u, news[j]? = some u → w.cell? (ad.add j) = some u) (h1 : ∀ u ∈ news, u.oneCell' = true)
    (hbytes : (n + 1) * bytes ≤ 140737488355328) (hpos : 0 < bytes) (hB : B ≤ w.heap.size) :
    ∃ v' w', (Builtin.append_ #[t, t] ty #[v, .slice (some ad) 1 c]).run P w = .ok v' w' ∧ OwnS e size w' B v' (n + 1) (xs ++ news) ∧ w.grownBy w' v.ownBlock ∧ (v'.ownBlock = v.ownBlock ∨ ∃ k, v'.ownBlock = some k ∧ w.heap.size ≤ k) := by
  have hmax : n + 1 ≤ maxLen := by
    have : (n + 1) * 1 ≤ (n + 1) * bytes := Nat.mul_le_mul_left _ hpos
    simp only [maxLen]; omega
  obtain ⟨h1', A, cp, rfl, hn, hc, h2⟩ := h
  have hnew : ∀ {v' : Value} {w' : World} {ys : List Value}, w'.ownsRow w.heap.size e size v' (n + 1) ys → w.grownBy w' none → OwnS e size w' B v' (n + 1) ys ∧ w.grownBy w' (Value.slice A n cp).ownBlock ∧ (v'.ownBlock = (Value.slice A n cp).ownBlock ∨ ∃ k, v'.ownBlock = some k ∧ w.heap.size ≤ k) := by
    intro v' w' ys ho hg
    refine ⟨(OwnS.of_row ho).mono hB, ⟨hg.os, hg.tape, hg.output, hg.size, fun k hk _ => hg.block k hk (by simp)⟩, .inr ?_⟩
    rcases ho.2 with ⟨rfl, h0⟩ | ⟨g, cap, cur, rfl, hgB, _⟩
    · omega
    · exact ⟨g, rfl, hgB⟩
  rcases h2 with ⟨rfl, rfl⟩ | ⟨g, o, cur, rfl, hg, hh, hs, hcur⟩
  · have hn0 : n = 0 := by omega
    subst hn0
    obtain rfl : xs = [] := List.eq_nil_of_length_eq_zero (by simpa using h1')
    obtain ⟨v', w', hr, ho, hg, _⟩ := run_append_own (P := P) w w.heap.size t ty e i z size bytes ht hi hz hsize hby hzs hsz (.slice none 0 0) 0 [] (World.ownsRow_nil w _ e size) ad 1 c news (by simpa using hl) hnews h1 hmax hbytes (Nat.le_refl _)
    have := hnew ho hg
    exact ⟨v', w', hr, this⟩
  · by_cases hroom : n + 1 ≤ cp
    · have hfit : o + n * size + news.length ≤ cur.size := by
        rw [hl]
        have : (n + 1) * size ≤ cp * size := Nat.mul_le_mul_right _ hroom
        rw [Nat.add_mul, Nat.one_mul] at this
        omega
      have hr := run_append_room_cells (P := P) w t ty e i ht hi g o n cp ad 1 c news (by rw [hl, hsize]; simp) hnews h1 hroom
        (fun j hj => by simp only [World.cell?, hh, hsize]; simp; omega) (fun j _ => by simp [World.frozen?, hh])
      rw [hsize] at hr
      obtain ⟨cur', a1, a2, a3, a4, a5⟩ := setCells_block news (o + n * size) w cur hh hfit
      refine ⟨_, _, hr, ⟨by rw [List.length_append, h1', hl, Nat.add_mul, Nat.one_mul], _, cp, rfl, hroom, hc, .inr ⟨g, o, cur', rfl, hg, a1, by omega, fun j u hj => ?_⟩⟩, a5, .inl rfl⟩
      rw [List.getElem?_append] at hj
      split at hj
      · rename_i hlt
        rw [a3 (o + j) (by rw [h1'] at hlt; omega)]
        exact hcur j u hj
      · rename_i hge
        have := a4 _ _ hj
        rwa [show o + n * size + (j - xs.length) = o + j by rw [h1'] at hge ⊢; omega] at this
    · obtain ⟨v', w', hr, ho, hg'⟩ := run_append_arg_grows (P := P) w t ty e i z size bytes ht hi hz hsize hby hzs hsz ⟨g, o, none⟩ n cp xs h1' (fun j u hj => by rw [Addr.add_lit]; simp [World.cell?, hh, hcur j u hj]) ad 1 c news (by simpa using hl) hnews (by omega) hmax hbytes
      exact ⟨v', w', hr, hnew ho hg'⟩
/-- append at the operation, for the walk. -/
theorem OwnS.wp_append {P : Program} {w : World} {ops : Array Oper} {rest : List Oper} {o : Oper} {a : Act} {Q : Exit → Act → World → Prop}
    (hgd : o.guard = none) (s x : Operand) (t : TypeId) (hop : o.op = Op.call { callee := Callee.builtin Builtin.append, args := #[s, x], argTypes := #[t, t] })
    (e : TypeId) (z : Value) (size bytes : Nat) (ht : P.underlying t = some (.slice e)) (hi : (P.info? e).map (fun i => (i.zero, i.size, i.bytes)) = some (some z, size, bytes)) (hzs : z.cells.size = size) (hsz : 0 < size) (hpos : 0 < bytes)
    (B n : Nat) (v : Value) (xs : List Value) (hs : a.eval s = v) (h : OwnS e size w B v n xs) (ad : Addr) (c : Nat) (news : List Value) (hx : a.eval x = .slice (some ad) 1 c) (hl : news.length = size)
    (hnews : ∀ j u, news[j]? = some u → w.cell? (ad.add j) = some u) (h1 : ∀ u ∈ news, u.oneCell' = true) (hbytes : (n + 1) * bytes ≤ 140737488355328) (hB : B ≤ w.heap.size)
    (hK : ∀ v' w', OwnS e size w' B v' (n + 1) (xs ++ news) → w.grownBy w' v.ownBlock → (v'.ownBlock = v.ownBlock ∨ ∃ k, v'.ownBlock = some k ∧ w.heap.size ≤ k) → wpList P ops Q rest (a.put o.dst v') w') :
    wpList P ops Q (o :: rest) a w := by
  obtain ⟨i, hi', hz, hsize, hby⟩ := info_parts hi
  refine wpList_plain hgd fun K hK' => ?_
  obtain ⟨v', w', hrun, r1, r2, r3⟩ := h.append (P := P) t o.type i z bytes ht hi' hz hsize hby hzs hsz ad c news hl hnews h1 hbytes hpos hB
  unfold Oper.wp execOp
  simp only [hop, resolve, invoke, builtin, Sem.run_bind, Sem.run_pure, Result.andThen_ok, List.map_toArray, List.map_cons, List.map_nil, hs, hx, hrun]
  exact hK' _ _ (hK v' w' r1 r2 r3)
/-- A store into element cells. -/
theorem OwnS.store {e : TypeId} {size : Nat} {w : World} {B n : Nat} {xs : List Value} {g o c : Nat} (h : OwnS e size w B (.slice (some ⟨g, o, none⟩) n c) n xs) (j : Nat) (u : Value) :
    OwnS e size (w.setCell ⟨g, o + j, none⟩ u) B (.slice (some ⟨g, o, none⟩) n c) n (xs.set j u) ∧ w.grownBy (w.setCell ⟨g, o + j, none⟩ u) (some g) := by
  obtain ⟨h1, A, c', hv, hn, hc, h2⟩ := h
  cases hv
  rcases h2 with ⟨h, _⟩ | ⟨g', o', cur, hA, hg, hh, hs, hcur⟩
  · cases h
  · cases hA
    refine ⟨⟨by simpa using h1, _, c, rfl, hn, hc, .inr ⟨g, o, cur.setIfInBounds (o + j) u, rfl, hg, ?_, by simpa using hs, fun k x hk => ?_⟩⟩, ⟨rfl, rfl, rfl, by simp [World.setCell], fun k hk hne => Below.heap_setCell _ _ _ _ (fun hh => hne (by rw [hh]))⟩⟩
    · simp [World.setCell, Array.getElem?_modify, hh]
    · rw [List.getElem?_set] at hk
      rw [Array.getElem?_setIfInBounds]
      have hle : n * size ≤ c * size := Nat.mul_le_mul_right _ hn
      split at hk
      · rename_i hjk; subst hjk
        split at hk
        · rename_i hlt
          rw [if_pos rfl, if_pos (by omega)]; exact hk
        · cases hk
      · rename_i hjk
        rw [if_neg (by omega)]; exact hcur k x hk
/-- 'xs[1:]'. -/
theorem OwnS.tail {P : Program} {e : TypeId} {w : World} {B n : Nat} {v x : Value} {xs : List Value} (h : OwnS e 1 w B v (n + 1) (x :: xs)) {t : TypeId} {i : TypeInfo} (ht : P.underlying t = some (.slice e)) (hi : P.info? e = some i) (hsz : i.size = 1) (kl : IntKind) :
    ∃ v', (∀ W : World, (Instr.slice t v (some (.int kl 1)) none none).run P W = .ok v' W) ∧ OwnS e 1 w B v' n xs ∧ v'.ownBlock = v.ownBlock := by
  obtain ⟨h1, A, c, rfl, hn, hc, h2⟩ := h
  have hel : P.elem t = e := by simp [Program.elem, ht]
  have hu : P.underlying t = some (.slice (P.elem t)) := by rw [hel]; exact ht
  refine ⟨.slice (if c = 1 then A else A.map (·.add 1)) n (c - 1), fun W => ?_, ⟨by simp at h1 ⊢; omega, _, _, rfl, by omega, by omega, ?_⟩, ?_⟩
  · have := run_slice_l (P := P) W t A (n + 1) c hu kl 1 (by omega) (by omega)
    rw [this, hel]
    simp [sizeOf, typeInfo, hi, hsz, sliced, Result.andThen]
  · rcases h2 with ⟨rfl, rfl⟩ | ⟨g, o, cur, rfl, hg, hh, hs, hcur⟩
    · omega
    · by_cases hc1 : c = 1
      · subst hc1
        refine .inr ⟨g, o, cur, by simp, hg, hh, by omega, fun j u hj => ?_⟩
        have : n = 0 := by omega
        subst this
        obtain rfl : xs = [] := List.eq_nil_of_length_eq_zero (by simpa using h1)
        cases hj
      · refine .inr ⟨g, o + 1, cur, by rw [if_neg hc1]; simp [Addr.add], hg, hh, by omega, fun j u hj => ?_⟩
        have := hcur (j + 1) u (by simpa using hj)
        rwa [show o + (j + 1) = o + 1 + j by omega] at this
  · rcases h2 with ⟨rfl, rfl⟩ | ⟨g, o, cur, rfl, hg, hh, hs, hcur⟩
    · omega
    · by_cases hc1 : c = 1 <;> simp [hc1, Value.ownBlock, Addr.add]
/-- append of one element, as one step of a region that draws its order. -/
theorem OwnS.step_append {P : Program} {ops : Array Oper} {o : Oper} {a : Act} {w : World} {K : Act → World → Prop} {Q : Exit → Act → World → Prop} {E : Prop}
    (hgd : o.guard = none) (s x : Operand) (t : TypeId) (hop : o.op = Op.call { callee := Callee.builtin Builtin.append, args := #[s, x], argTypes := #[t, t] })
    (e : TypeId) (z : Value) (size bytes : Nat) (ht : P.underlying t = some (.slice e)) (hi : (P.info? e).map (fun i => (i.zero, i.size, i.bytes)) = some (some z, size, bytes)) (hzs : z.cells.size = size) (hsz : 0 < size) (hpos : 0 < bytes)
    (B n : Nat) (v : Value) (xs : List Value) (hs : a.eval s = v) (h : OwnS e size w B v n xs) (ad : Addr) (c : Nat) (news : List Value) (hx : a.eval x = .slice (some ad) 1 c) (hl : news.length = size)
    (hnews : ∀ j u, news[j]? = some u → w.cell? (ad.add j) = some u) (h1 : ∀ u ∈ news, u.oneCell' = true) (hbytes : (n + 1) * bytes ≤ 140737488355328) (hB : B ≤ w.heap.size)
    (hK : ∀ v' w', OwnS e size w' B v' (n + 1) (xs ++ news) → w.grownBy w' v.ownBlock → (v'.ownBlock = v.ownBlock ∨ ∃ k, v'.ownBlock = some k ∧ w.heap.size ≤ k) → K (a.put o.dst v') w') :
    if Region.wanted o (yielded ops a.tmps) = true then Oper.wp P o a w K Q else E := by
  have hw : Region.wanted o (yielded ops a.tmps) = true := by simp [Region.wanted, hgd]
  rw [if_pos hw]
  obtain ⟨i, hi', hz, hsize, hby⟩ : ∃ i, P.info? e = some i ∧ i.zero = some z ∧ i.size = size ∧ i.bytes = bytes := by
    cases h0 : P.info? e with
    | none => rw [h0] at hi; cases hi
    | some i => rw [h0] at hi; simp at hi; exact ⟨i, rfl, hi⟩
  obtain ⟨v', w', hr, ho, hg, hor⟩ := h.append (P := P) t o.type i z bytes ht hi' hz hsize hby hzs hsz ad c news hl hnews h1 hbytes hpos hB
  unfold Oper.wp
  simp [execOp, hop, resolve, invoke, builtin, hs, hx, hr, Result.andThen]
  exact hK v' w' ho hg hor
end Go.Proofs.Ytoeiongnjogpeaa
namespace Go.Proofs.Ytoeiongnjogpeaa
open Go.RowKit
theorem OwnS.append_many {P : Program} {e : TypeId} {size : Nat} {w : World} {B n : Nat} {v : Value} {xs : List Value} (h : OwnS e size w B v n xs)
    (t ty : TypeId) (i : TypeInfo) (z : Value) (bytes : Nat) (ht : P.underlying t = some (.slice e)) (hi : P.info? e = some i) (hz : i.zero = some z) (hsize : i.size = size) (hby : i.bytes = bytes) (hzs : z.cells.size = size) (hsz : 0 < size)
    (ad : Addr) (m c : Nat) (news : List Value) (hl : news.length = m * size) (hm : 0 < m) (hnews : ∀ j u, news[j]? = some u → w.cell? (ad.add j) = some u) (h1 : ∀ u ∈ news, u.oneCell' = true)
    (hbytes : (n + m) * bytes ≤ 140737488355328) (hpos : 0 < bytes) (hB : B ≤ w.heap.size) :
    ∃ v' w', (Builtin.append_ #[t, t] ty #[v, .slice (some ad) m c]).run P w = .ok v' w' ∧ OwnS e size w' B v' (n + m) (xs ++ news) ∧ w.grownBy w' v.ownBlock ∧ (v'.ownBlock = v.ownBlock ∨ ∃ k, v'.ownBlock = some k ∧ w.heap.size ≤ k) := by
  have hmax : n + m ≤ maxLen := by
    have : (n + m) * 1 ≤ (n + m) * bytes := Nat.mul_le_mul_left _ hpos
    simp only [maxLen]; omega
  obtain ⟨h1', A, cp, rfl, hn, hc, h2⟩ := h
  have hnew : ∀ {v' : Value} {w' : World} {ys : List Value}, w'.ownsRow w.heap.size e size v' (n + m) ys → w.grownBy w' none → OwnS e size w' B v' (n + m) ys ∧ w.grownBy w' (Value.slice A n cp).ownBlock ∧ (v'.ownBlock = (Value.slice A n cp).ownBlock ∨ ∃ k, v'.ownBlock = some k ∧ w.heap.size ≤ k) := by
    intro v' w' ys ho hg
    refine ⟨(OwnS.of_row ho).mono hB, ⟨hg.os, hg.tape, hg.output, hg.size, fun k hk _ => hg.block k hk (by simp)⟩, .inr ?_⟩
    rcases ho.2 with ⟨rfl, h0⟩ | ⟨g, cap, cur, rfl, hgB, _⟩
    · omega
    · exact ⟨g, rfl, hgB⟩
  rcases h2 with ⟨rfl, rfl⟩ | ⟨g, o, cur, rfl, hg, hh, hs, hcur⟩
  · have hn0 : n = 0 := by omega
    subst hn0
    obtain rfl : xs = [] := List.eq_nil_of_length_eq_zero (by simpa using h1')
    obtain ⟨v', w', hr, ho, hg, _⟩ := run_append_own (P := P) w w.heap.size t ty e i z size bytes ht hi hz hsize hby hzs hsz (.slice none 0 0) 0 [] (World.ownsRow_nil w _ e size) ad m c news hl hnews h1 hmax hbytes (Nat.le_refl _)
    have := hnew ho hg
    exact ⟨v', w', hr, this⟩
  · by_cases hroom : n + m ≤ cp
    · have hfit : o + n * size + news.length ≤ cur.size := by
        rw [hl]
        have : (n + m) * size ≤ cp * size := Nat.mul_le_mul_right _ hroom
        rw [Nat.add_mul] at this
        omega
      have hr := run_append_room_cells (P := P) w t ty e i ht hi g o n cp ad m c news (by rw [hl, hsize]) hnews h1 hroom
        (fun j hj => by simp only [World.cell?, hh, hsize]; simp; omega) (fun j _ => by simp [World.frozen?, hh])
      rw [hsize] at hr
      obtain ⟨cur', a1, a2, a3, a4, a5⟩ := setCells_block news (o + n * size) w cur hh hfit
      refine ⟨_, _, hr, ⟨by rw [List.length_append, h1', hl, Nat.add_mul], _, cp, rfl, hroom, hc, .inr ⟨g, o, cur', rfl, hg, a1, by omega, fun j u hj => ?_⟩⟩, a5, .inl rfl⟩
      rw [List.getElem?_append] at hj
      split at hj
      · rename_i hlt
        rw [a3 (o + j) (by rw [h1'] at hlt; omega)]
        exact hcur j u hj
      · rename_i hge
        have := a4 _ _ hj
        rwa [show o + n * size + (j - xs.length) = o + j by rw [h1'] at hge ⊢; omega] at this
    · obtain ⟨v', w', hr, ho, hg'⟩ := run_append_arg_grows (P := P) w t ty e i z size bytes ht hi hz hsize hby hzs hsz ⟨g, o, none⟩ n cp xs h1' (fun j u hj => by rw [Addr.add_lit]; simp [World.cell?, hh, hcur j u hj]) ad m c news hl hnews (by omega) hmax hbytes
      exact ⟨v', w', hr, hnew ho hg'⟩
theorem append_zero {P : Program} (w : World) (t ty e : TypeId) (i : TypeInfo) (ht : P.underlying t = some (.slice e)) (hi : P.info? e = some i) (A A2 : Option Addr) (n cp c2 : Nat) (hn : n ≤ cp) :
    (Builtin.append_ #[t, t] ty #[.slice A n cp, .slice A2 0 c2]).run P w = .ok (.slice A n cp) w := by
  cases A2 with
  | none => cases A <;> simp [Builtin.append_, run_underlying ht, sizeOf, typeInfo, hi, Builtin.lenOf, Builtin.firstCells, hn, storeCells]
  | some ad =>
    have hfc := run_firstCells_some (P := P) w i.size 0 ad 0 c2 [] (by simp) (fun j u hj => by simp at hj)
    cases A <;> simp [Builtin.append_, run_underlying ht, sizeOf, typeInfo, hi, Builtin.lenOf, hfc, hn, storeCells]
/-- append of another slice of one-cell elements, which may be nil, at the operation. -/
theorem OwnS.wp_append_slice {P : Program} {w : World} {ops : Array Oper} {rest : List Oper} {o : Oper} {a : Act} {Q : Exit → Act → World → Prop}
    (hgd : o.guard = none) (s x : Operand) (t : TypeId) (hop : o.op = Op.call { callee := Callee.builtin Builtin.append, args := #[s, x], argTypes := #[t, t] })
    (e : TypeId) (z : Value) (bytes : Nat) (ht : P.underlying t = some (.slice e)) (hi : (P.info? e).map (fun i => (i.zero, i.size, i.bytes)) = some (some z, 1, bytes)) (hzs : z.cells.size = 1) (hpos : 0 < bytes)
    (B n : Nat) (v : Value) (xs : List Value) (hs : a.eval s = v) (h : OwnS e 1 w B v n xs) (B2 m : Nat) (u : Value) (news : List Value) (hx : a.eval x = u) (hu : OwnS e 1 w B2 u m news)
    (h1 : ∀ y ∈ news, y.oneCell' = true) (hbytes : (n + m) * bytes ≤ 140737488355328) (hB : B ≤ w.heap.size)
    (hK : ∀ v' w', OwnS e 1 w' B v' (n + m) (xs ++ news) → w.grownBy w' v.ownBlock → (v'.ownBlock = v.ownBlock ∨ ∃ k, v'.ownBlock = some k ∧ w.heap.size ≤ k) → wpList P ops Q rest (a.put o.dst v') w') :
    wpList P ops Q (o :: rest) a w := by
  obtain ⟨i, hi', hz, hsize, hby⟩ := info_parts hi
  refine wpList_plain hgd fun K hK' => ?_
  obtain ⟨v', w', hrun, r1, r2, r3⟩ : ∃ v' w', (Builtin.append_ #[t, t] o.type #[v, u]).run P w = .ok v' w' ∧ OwnS e 1 w' B v' (n + m) (xs ++ news) ∧ w.grownBy w' v.ownBlock ∧ (v'.ownBlock = v.ownBlock ∨ ∃ k, v'.ownBlock = some k ∧ w.heap.size ≤ k) := by
    obtain ⟨g1, A2, c2, rfl, hn2, hc2, g2⟩ := hu
    have same : m = 0 → (∃ v' w', (Builtin.append_ #[t, t] o.type #[v, .slice A2 m c2]).run P w = .ok v' w' ∧ v' = v ∧ w' = w) → ∃ v' w', (Builtin.append_ #[t, t] o.type #[v, .slice A2 m c2]).run P w = .ok v' w' ∧ OwnS e 1 w' B v' (n + m) (xs ++ news) ∧ w.grownBy w' v.ownBlock ∧ (v'.ownBlock = v.ownBlock ∨ ∃ k, v'.ownBlock = some k ∧ w.heap.size ≤ k) := by
      rintro h0 ⟨v', w', hr, rfl, rfl⟩
      subst h0
      obtain rfl : news = [] := List.eq_nil_of_length_eq_zero (by simpa using g1)
      exact ⟨_, _, hr, by simpa using h, World.grownBy.refl _ _, .inl rfl⟩
    rcases g2 with ⟨rfl, rfl⟩ | ⟨g, off, cur, rfl, hg, hh, hsz, hcur⟩
    · have hm0 : m = 0 := by omega
      refine same hm0 ?_
      subst hm0
      obtain ⟨_, A, cp, rfl, hn, hc, _⟩ := h
      exact ⟨_, _, append_zero w t o.type e i ht hi' A none n cp _ hn, rfl, rfl⟩
    · rcases Nat.eq_zero_or_pos m with h0 | h0
      · refine same h0 ?_
        subst h0
        obtain ⟨_, A, cp, rfl, hn, hc, _⟩ := h
        exact ⟨_, _, append_zero w t o.type e i ht hi' A (some ⟨g, off, none⟩) n cp _ hn, rfl, rfl⟩
      · exact h.append_many (P := P) t o.type i z bytes ht hi' hz hsize hby hzs (by omega) ⟨g, off, none⟩ m c2 news (by simpa using g1) h0 (fun j y hj => by rw [Addr.add_lit]; simp [World.cell?, hh, hcur j y hj]) h1 hbytes hpos hB
  unfold Oper.wp execOp
  simp only [hop, resolve, invoke, builtin, Sem.run_bind, Sem.run_pure, Result.andThen_ok, List.map_toArray, List.map_cons, List.map_nil, hs, hx, hrun]
  exact hK' _ _ (hK v' w' r1 r2 r3)
/-- 'xs[:n]'. -/
theorem OwnS.init {P : Program} {e : TypeId} {w : World} {B n : Nat} {v x : Value} {xs : List Value} (h : OwnS e 1 w B v (n + 1) (xs ++ [x])) {t : TypeId} {i : TypeInfo} (ht : P.underlying t = some (.slice e)) (hi : P.info? e = some i) (kl : IntKind) :
    ∃ v', (∀ W : World, (Instr.slice t v none (some (.int kl (n : Int))) none).run P W = .ok v' W) ∧ OwnS e 1 w B v' n xs ∧ v'.ownBlock = v.ownBlock := by
  obtain ⟨h1, A, c, rfl, hn, hc, h2⟩ := h
  have hel : P.elem t = e := by simp [Program.elem, ht]
  have hu : P.underlying t = some (.slice (P.elem t)) := by rw [hel]; exact ht
  refine ⟨.slice A n c, fun W => ?_, ⟨by simp at h1 ⊢; omega, A, c, rfl, by omega, hc, h2.imp_right ?_⟩, ?_⟩
  · have := run_slice_h (P := P) W t A (n + 1) c hu kl (n : Int) (by omega) (by omega)
    rw [this, hel]
    cases A <;> simp [sizeOf, typeInfo, hi, sliced, Result.andThen, Addr.add]
  · rintro ⟨g, o, cur, hA, hg, hh, hs, hcur⟩
    refine ⟨g, o, cur, hA, hg, hh, hs, fun j u hj => hcur j u ?_⟩
    rw [List.getElem?_append_left (List.getElem?_eq_some_iff.1 hj).1]
    exact hj
  · cases A <;> simp [Value.ownBlock]
end Go.Proofs.Ytoeiongnjogpeaa
namespace Go.Proofs.Ytoeiongnjogpeaa
open Go.RowKit
theorem OwnS.rdI {w : World} {B n c : Nat} {A : Option Addr} {f : List Int} (h : OwnS 3 1 w B (.slice A n c) n (f.map (Value.int .i64))) : RdI w A f := by
  have hl : f.length = n := by have := h.1; simpa using this
  obtain ⟨_, _, _, hn, hc⟩ := h.slice
  refine ⟨?_, fun i hi => ?_⟩
  · have := h.2
    obtain ⟨A', c', hv, h1, h2, _⟩ := this
    simp only [maxLen] at h2
    omega
  · obtain ⟨g, o, rfl, hcell, _⟩ := h.cell (j := i) (u := .int .i64 (numAt f i)) (by rw [List.getElem?_map, numAt_eq hi]; rfl)
    exact ⟨_, rfl, by rw [Addr.add_lit]; exact hcell⟩
theorem rdI_new (W : World) (xs : List Int) (h : xs.length ≤ 1000) (b : Nat) (hb : b = W.heap.size) : RdI (W.alloc (.cells (xs.map (Value.int .i64)).toArray 3)) (some ⟨b, 0, none⟩) xs := by
  refine ⟨by omega, fun i hi => ⟨_, rfl, ?_⟩⟩
  exact box_cells W (xs.map (Value.int .i64)).toArray 3 b hb i _ (by simp [List.getElem?_map, numAt_eq hi])
theorem OwnS.step_append_g {P : Program} {ops : Array Oper} {o : Oper} {a : Act} {w : World} {K : Act → World → Prop} {Q : Exit → Act → World → Prop} {E : Prop}
    (hw : Region.wanted o (yielded ops a.tmps) = true) (s x : Operand) (t : TypeId) (hop : o.op = Op.call { callee := Callee.builtin Builtin.append, args := #[s, x], argTypes := #[t, t] })
    (e : TypeId) (z : Value) (size bytes : Nat) (ht : P.underlying t = some (.slice e)) (hi : (P.info? e).map (fun i => (i.zero, i.size, i.bytes)) = some (some z, size, bytes)) (hzs : z.cells.size = size) (hsz : 0 < size) (hpos : 0 < bytes)
    (B n : Nat) (v : Value) (xs : List Value) (hs : a.eval s = v) (h : OwnS e size w B v n xs) (ad : Addr) (c : Nat) (news : List Value) (hx : a.eval x = .slice (some ad) 1 c) (hl : news.length = size)
    (hnews : ∀ j u, news[j]? = some u → w.cell? (ad.add j) = some u) (h1 : ∀ u ∈ news, u.oneCell' = true) (hbytes : (n + 1) * bytes ≤ 140737488355328) (hB : B ≤ w.heap.size)
    (hK : ∀ v' w', OwnS e size w' B v' (n + 1) (xs ++ news) → w.grownBy w' v.ownBlock → (v'.ownBlock = v.ownBlock ∨ ∃ k, v'.ownBlock = some k ∧ w.heap.size ≤ k) → K (a.put o.dst v') w') :
    if Region.wanted o (yielded ops a.tmps) = true then Oper.wp P o a w K Q else E := by
  rw [if_pos hw]
  obtain ⟨i, hi', hz, hsize, hby⟩ : ∃ i, P.info? e = some i ∧ i.zero = some z ∧ i.size = size ∧ i.bytes = bytes := by
    cases h0 : P.info? e with
    | none => rw [h0] at hi; cases hi
    | some i => rw [h0] at hi; simp at hi; exact ⟨i, rfl, hi⟩
  obtain ⟨v', w', hr, ho, hg, hor⟩ := h.append (P := P) t o.type i z bytes ht hi' hz hsize hby hzs hsz ad c news hl hnews h1 hbytes hpos hB
  unfold Oper.wp
  simp [execOp, hop, resolve, invoke, builtin, hs, hx, hr, Result.andThen]
  exact hK v' w' ho hg hor
end Go.Proofs.Ytoeiongnjogpeaa
namespace Go.Proofs.Ytoeiongnjogpeaa
open Go.RowKit
/-- A slice of the call's own, of the numbers out. -/
def OwnI (w : World) (B : Nat) (v : Value) (out : List Int) : Prop := OwnS 3 1 w B v out.length (out.map (Value.int .i64))
theorem OwnI.nil (w : World) (B : Nat) : OwnI w B (.slice none 0 0) [] := OwnS.nil _ _ _ _
theorem OwnI.slice {w : World} {B : Nat} {v : Value} {out : List Int} (h : OwnI w B v out) : ∃ A c, v = .slice A out.length c := by
  obtain ⟨A, c, rfl, _, _⟩ := OwnS.slice h
  exact ⟨A, c, rfl⟩
theorem OwnI.rdI {w : World} {B n c : Nat} {A : Option Addr} {out : List Int} (h : OwnI w B (.slice A n c) out) : RdI w A out := by
  obtain ⟨A', c', e, _, _⟩ := OwnS.slice h
  cases e
  exact OwnS.rdI (B := B) (c := c) h
theorem OwnI.below {w w' : World} {B : Nat} {v : Value} {out : List Int} (h : OwnI w B v out) (hb : Below w.heap.size w w') : OwnI w' B v out := OwnS.below h hb
theorem wp_appI {ops : Array Oper} {rest : List Oper} {o : Oper} {a : Act} {Q : Exit → Act → World → Prop}
    (hgd : o.guard = none) (s x : Operand) (hop : o.op = Op.call { callee := Callee.builtin Builtin.append, args := #[s, x], argTypes := #[25, 25] })
    (w0 w : World) (v : Value) (out : List Int) (y : Int) (hs : a.eval s = v) (hx : a.eval x = .slice (some ⟨w.heap.size, 0, none⟩) 1 1)
    (h : OwnI w w0.heap.size v out) (hlen : out.length ≤ 1000000) (hb : Below w0.heap.size w0 w)
    (hK : ∀ A' c' w', Hid (OwnI w' w0.heap.size (.slice A' (out.length + 1) c') (out ++ [y])) → Hid (Below w0.heap.size w0 w') → wpList Try.prog ops Q rest (a.put o.dst (.slice A' (out.length + 1) c')) w') :
    wpList Try.prog ops Q (o :: rest) a (w.alloc (.cells #[.int .i64 y] 3)) := by
  have hsz := hb.size
  refine OwnS.wp_append hgd s x 25 hop 3 (.int .i64 0) 1 8 Try.underlying25 (by kernel_rfl) rfl (by omega) (by omega) w0.heap.size out.length v (out.map (Value.int .i64)) hs (OwnS.alloc h _) ⟨w.heap.size, 0, none⟩ 1 [.int .i64 y] hx rfl (box_cells _ #[.int .i64 y] 3 _ rfl) (by simp [Value.oneCell']) (by omega) (by simp; omega) ?_
  intro v' w' ho hg _
  obtain ⟨A', c', rfl, _, _⟩ := ho.slice
  exact hK A' c' w' (by
    show OwnS _ _ _ _ _ _ _
    have e1 : (out ++ [y]).length = out.length + 1 := by simp
    rw [e1, List.map_append]
    exact ho) ((hb.alloc hb.size _).grown hg (by simp; omega) (fun j hj => (OwnS.block h hj).1))
end Go.Proofs.Ytoeiongnjogpeaa
namespace Go.Proofs.Ytoeiongnjogpeaa
open Go.RowKit
/-- append of m elements, whose cells lie at ad. -/
theorem OwnS.appendN {P : Program} {e : TypeId} {size : Nat} {w : World} {B n m : Nat} {v : Value} {xs : List Value} (h : OwnS e size w B v n xs)
    (t ty : TypeId) (i : TypeInfo) (z : Value) (bytes : Nat) (ht : P.underlying t = some (.slice e)) (hi : P.info? e = some i) (hz : i.zero = some z) (hsize : i.size = size) (hby : i.bytes = bytes) (hzs : z.cells.size = size) (hsz : 0 < size) (hm : 0 < m)
    (ad : Addr) (c : Nat) (news : List Value) (hl : news.length = m * size) (hnews : ∀ j u, news[j]? = some u → w.cell? (ad.add j) = some u) (h1 : ∀ u ∈ news, u.oneCell' = true)
    (hbytes : (n + m) * bytes ≤ 140737488355328) (hpos : 0 < bytes) (hB : B ≤ w.heap.size) :
    ∃ v' w', (Builtin.append_ #[t, t] ty #[v, .slice (some ad) m c]).run P w = .ok v' w' ∧ OwnS e size w' B v' (n + m) (xs ++ news) ∧ w.grownBy w' v.ownBlock ∧ (v'.ownBlock = v.ownBlock ∨ ∃ k, v'.ownBlock = some k ∧ w.heap.size ≤ k) := by
  have hmax : n + m ≤ maxLen := by
    have : (n + m) * 1 ≤ (n + m) * bytes := Nat.mul_le_mul_left _ hpos
    simp only [maxLen]; omega
  obtain ⟨h1', A, cp, rfl, hn, hc, h2⟩ := h
  have hnew : ∀ {v' : Value} {w' : World} {ys : List Value}, w'.ownsRow w.heap.size e size v' (n + m) ys → w.grownBy w' none → OwnS e size w' B v' (n + m) ys ∧ w.grownBy w' (Value.slice A n cp).ownBlock ∧ (v'.ownBlock = (Value.slice A n cp).ownBlock ∨ ∃ k, v'.ownBlock = some k ∧ w.heap.size ≤ k) := by
    intro v' w' ys ho hg
    refine ⟨(OwnS.of_row ho).mono hB, ⟨hg.os, hg.tape, hg.output, hg.size, fun k hk _ => hg.block k hk (by simp)⟩, .inr ?_⟩
    rcases ho.2 with ⟨rfl, h0⟩ | ⟨g, cap, cur, rfl, hgB, _⟩
    · omega
    · exact ⟨g, rfl, hgB⟩
  rcases h2 with ⟨rfl, rfl⟩ | ⟨g, o, cur, rfl, hg, hh, hs, hcur⟩
  · have hn0 : n = 0 := by omega
    subst hn0
    obtain rfl : xs = [] := List.eq_nil_of_length_eq_zero (by simpa using h1')
    obtain ⟨v', w', hr, ho, hg, _⟩ := run_append_own (P := P) w w.heap.size t ty e i z size bytes ht hi hz hsize hby hzs hsz (.slice none 0 0) 0 [] (World.ownsRow_nil w _ e size) ad m c news (by simpa using hl) hnews h1 hmax hbytes (Nat.le_refl _)
    have := hnew ho hg
    exact ⟨v', w', hr, this⟩
  · by_cases hroom : n + m ≤ cp
    · have hfit : o + n * size + news.length ≤ cur.size := by
        rw [hl]
        have : (n + m) * size ≤ cp * size := Nat.mul_le_mul_right _ hroom
        rw [Nat.add_mul] at this
        omega
      have hr := run_append_room_cells (P := P) w t ty e i ht hi g o n cp ad m c news (by rw [hl, hsize]) hnews h1 hroom
        (fun j hj => by simp only [World.cell?, hh, hsize]; simp; omega) (fun j _ => by simp [World.frozen?, hh])
      rw [hsize] at hr
      obtain ⟨cur', a1, a2, a3, a4, a5⟩ := setCells_block news (o + n * size) w cur hh hfit
      refine ⟨_, _, hr, ⟨by rw [List.length_append, h1', hl, Nat.add_mul], _, cp, rfl, hroom, hc, .inr ⟨g, o, cur', rfl, hg, a1, by omega, fun j u hj => ?_⟩⟩, a5, .inl rfl⟩
      rw [List.getElem?_append] at hj
      split at hj
      · rename_i hlt
        rw [a3 (o + j) (by rw [h1'] at hlt; omega)]
        exact hcur j u hj
      · rename_i hge
        have := a4 _ _ hj
        rwa [show o + n * size + (j - xs.length) = o + j by rw [h1'] at hge ⊢; omega] at this
    · obtain ⟨v', w', hr, ho, hg'⟩ := run_append_arg_grows (P := P) w t ty e i z size bytes ht hi hz hsize hby hzs hsz ⟨g, o, none⟩ n cp xs h1' (fun j u hj => by rw [Addr.add_lit]; simp [World.cell?, hh, hcur j u hj]) ad m c news (by simpa using hl) hnews (by omega) hmax hbytes
      exact ⟨v', w', hr, hnew ho hg'⟩
/-- append of a whole slice at the operation, for the walk. -/
theorem OwnS.wp_appendAll {P : Program} {w : World} {ops : Array Oper} {rest : List Oper} {o : Oper} {a : Act} {Q : Exit → Act → World → Prop}
    (hgd : o.guard = none) (s x : Operand) (t : TypeId) (hop : o.op = Op.call { callee := Callee.builtin Builtin.append, args := #[s, x], argTypes := #[t, t] })
    (e : TypeId) (z : Value) (size bytes : Nat) (ht : P.underlying t = some (.slice e)) (hi : (P.info? e).map (fun i => (i.zero, i.size, i.bytes)) = some (some z, size, bytes)) (hzs : z.cells.size = size) (hsz : 0 < size) (hpos : 0 < bytes)
    (B n m : Nat) (v : Value) (xs : List Value) (hs : a.eval s = v) (h : OwnS e size w B v n xs) (A2 : Option Addr) (c : Nat) (news : List Value) (hx : a.eval x = .slice A2 m c) (hl : news.length = m * size)
    (hA : 0 < m → ∃ ad, A2 = some ad ∧ ∀ j u, news[j]? = some u → w.cell? (ad.add j) = some u) (h1 : ∀ u ∈ news, u.oneCell' = true) (hbytes : (n + m) * bytes ≤ 140737488355328) (hB : B ≤ w.heap.size)
    (hK : ∀ v' w', OwnS e size w' B v' (n + m) (xs ++ news) → w.grownBy w' v.ownBlock → (v'.ownBlock = v.ownBlock ∨ ∃ k, v'.ownBlock = some k ∧ w.heap.size ≤ k) → wpList P ops Q rest (a.put o.dst v') w') :
    wpList P ops Q (o :: rest) a w := by
  obtain ⟨i, hi', hz, hsize, hby⟩ := info_parts hi
  refine wpList_plain hgd fun K hK' => ?_
  rcases Nat.eq_zero_or_pos m with rfl | hm
  · obtain rfl : news = [] := List.eq_nil_of_length_eq_zero (by simpa using hl)
    obtain ⟨A, cp, rfl, hn, hc⟩ := h.slice
    have hrun := append_zero (P := P) w t o.type e i ht hi' A A2 n cp c hn
    have hk := hK (.slice A n cp) w (by simpa using h) ⟨rfl, rfl, rfl, Nat.le_refl _, fun k _ _ => rfl⟩ (.inl rfl)
    unfold Oper.wp execOp
    simp only [hop, resolve, invoke, builtin, Sem.run_bind, Sem.run_pure, Result.andThen_ok, List.map_toArray, List.map_cons, List.map_nil, hs, hx, hrun]
    exact hK' _ _ hk
  · obtain ⟨ad, rfl, hnews⟩ := hA hm
    obtain ⟨v', w', hrun, r1, r2, r3⟩ := h.appendN (P := P) t o.type i z bytes ht hi' hz hsize hby hzs hsz hm ad c news hl hnews h1 hbytes hpos hB
    unfold Oper.wp execOp
    simp only [hop, resolve, invoke, builtin, Sem.run_bind, Sem.run_pure, Result.andThen_ok, List.map_toArray, List.map_cons, List.map_nil, hs, hx, hrun]
    exact hK' _ _ (hK v' w' r1 r2 r3)
end Go.Proofs.Ytoeiongnjogpeaa

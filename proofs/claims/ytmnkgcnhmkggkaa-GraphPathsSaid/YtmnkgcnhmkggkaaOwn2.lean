/- Proved here: append of many elements to a slice of the call's own, and its cut to the first elements. Condition: nothing else holds its cells. -/
import Derived.Test.YtmnkgcnhmkggkaaOwn
import Derived.Laws.OwnMore
namespace Go.Proofs.Ytmnkgcnhmkggkaa
open Go.RowKit
theorem OwnS.append_many {P : Program} {e : TypeId} {size : Nat} {w : World} {B n : Nat} {v : Value} {xs : List Value} (h : OwnS e size w B v n xs)
    (t ty : TypeId) (i : TypeInfo) (z : Value) (bytes : Nat) (ht : P.underlying t = some (.slice e)) (hi : P.info? e = some i) (hz : i.zero = some z) (hsize : i.size = size) (hby : i.bytes = bytes) (hzs : z.cells.size = size) (hsz : 0 < size)
    (ad : Addr) (m c : Nat) (news : List Value) (hl : news.length = m * size) (hm : 0 < m) (hnews : ∀ j u, news[j]? = some u → w.cell? (ad.add j) = some u) (h1 : ∀ u ∈ news, u.oneCell' = true)
    (hbytes : (n + m) * bytes ≤ 140737488355328) (hpos : 0 < bytes) (hB : B ≤ w.heap.size) :
    ∃ v' w', (Builtin.append_ #[t, t] ty #[v, .slice (some ad) m c]).run P w = .ok v' w' ∧ OwnS e size w' B v' (n + m) (xs ++ news) ∧ w.grownBy w' v.ownBlock ∧ (v'.ownBlock = v.ownBlock ∨ ∃ k, v'.ownBlock = some k ∧ w.heap.size ≤ k) := by
  have hmax : n + m ≤ maxLen := by
    have : (n + m) * 1 ≤ (n + m) * bytes := Nat.mul_le_mul_left _ hpos
    simp only [maxLen]; omega
  obtain ⟨h1', A, cp, rfl, hn, hc, h2⟩ := h
  have hnew : ∀ {v' : Value} {w' : World} {ys : List Value}, w'.ownsRow w.heap.size e size v' (n + m) ys → w.grownBy w' none → OwnS e size w' B v' (n + m) ys ∧ w.grownBy w' (Value.slice A n cp).ownBlock ∧ (v'.ownBlock = (Value.slice A n cp).ownBlock ∨ ∃ k, v'.ownBlock = some k ∧ w.heap.size ≤ k) := by
    intro v' w' ys ho hg
    refine ⟨(OwnS.of_row ho).mono hB, ⟨hg.os, hg.tape, hg.output, hg.size, fun k hk _ => hg.block k hk (by simp)⟩, .inr ?_⟩
    rcases ho.2 with ⟨rfl, h0⟩ | ⟨g, cap, cur, rfl, hgB, _⟩
    · omega
    · exact ⟨g, rfl, hgB⟩
  rcases h2 with ⟨rfl, rfl⟩ | ⟨g, o, cur, rfl, hg, hh, hs, hcur⟩
  · have hn0 : n = 0 := by omega
    subst hn0
    obtain rfl : xs = [] := List.eq_nil_of_length_eq_zero (by simpa using h1')
    obtain ⟨v', w', hr, ho, hg, _⟩ := run_append_own (P := P) w w.heap.size t ty e i z size bytes ht hi hz hsize hby hzs hsz (.slice none 0 0) 0 [] (World.ownsRow_nil w _ e size) ad m c news hl hnews h1 hmax hbytes (Nat.le_refl _)
    have := hnew ho hg
    exact ⟨v', w', hr, this⟩
  · by_cases hroom : n + m ≤ cp
    · have hfit : o + n * size + news.length ≤ cur.size := by
        rw [hl]
        have : (n + m) * size ≤ cp * size := Nat.mul_le_mul_right _ hroom
        rw [Nat.add_mul] at this
        omega
      have hr := run_append_room_cells (P := P) w t ty e i ht hi g o n cp ad m c news (by rw [hl, hsize]) hnews h1 hroom
        (fun j hj => by simp only [World.cell?, hh, hsize]; simp; omega) (fun j _ => by simp [World.frozen?, hh])
      rw [hsize] at hr
      obtain ⟨cur', a1, a2, a3, a4, a5⟩ := setCells_block news (o + n * size) w cur hh hfit
      refine ⟨_, _, hr, ⟨by rw [List.length_append, h1', hl, Nat.add_mul], _, cp, rfl, hroom, hc, .inr ⟨g, o, cur', rfl, hg, a1, by omega, fun j u hj => ?_⟩⟩, a5, .inl rfl⟩
      rw [List.getElem?_append] at hj
      split at hj
      · rename_i hlt
        rw [a3 (o + j) (by rw [h1'] at hlt; omega)]
        exact hcur j u hj
      · rename_i hge
        have := a4 _ _ hj
        rwa [show o + n * size + (j - xs.length) = o + j by rw [h1'] at hge ⊢; omega] at this
    · obtain ⟨v', w', hr, ho, hg'⟩ := run_append_arg_grows (P := P) w t ty e i z size bytes ht hi hz hsize hby hzs hsz ⟨g, o, none⟩ n cp xs h1' (fun j u hj => by rw [Addr.add_lit]; simp [World.cell?, hh, hcur j u hj]) ad m c news hl hnews (by omega) hmax hbytes
      exact ⟨v', w', hr, hnew ho hg'⟩
theorem append_zero {P : Program} (w : World) (t ty e : TypeId) (i : TypeInfo) (ht : P.underlying t = some (.slice e)) (hi : P.info? e = some i) (A A2 : Option Addr) (n cp c2 : Nat) (hn : n ≤ cp) :
    (Builtin.append_ #[t, t] ty #[.slice A n cp, .slice A2 0 c2]).run P w = .ok (.slice A n cp) w := by
  cases A2 with
  | none => cases A <;> simp [Builtin.append_, run_underlying ht, sizeOf, typeInfo, hi, Builtin.lenOf, Builtin.firstCells, hn, storeCells]
  | some ad =>
    have hfc := run_firstCells_some (P := P) w i.size 0 ad 0 c2 [] (by simp) (fun j u hj => by simp at hj)
    cases A <;> simp [Builtin.append_, run_underlying ht, sizeOf, typeInfo, hi, Builtin.lenOf, hfc, hn, storeCells]
/-- append of another slice of one-cell elements, which may be nil, at the operation. -/
theorem OwnS.wp_append_slice {P : Program} {w : World} {ops : Array Oper} {rest : List Oper} {o : Oper} {a : Act} {Q : Exit → Act → World → Prop}
    (hgd : o.guard = none) (s x : Operand) (t : TypeId) (hop : o.op = Op.call { callee := Callee.builtin Builtin.append, args := #[s, x], argTypes := #[t, t] })
    (e : TypeId) (z : Value) (bytes : Nat) (ht : P.underlying t = some (.slice e)) (hi : (P.info? e).map (fun i => (i.zero, i.size, i.bytes)) = some (some z, 1, bytes)) (hzs : z.cells.size = 1) (hpos : 0 < bytes)
    (B n : Nat) (v : Value) (xs : List Value) (hs : a.eval s = v) (h : OwnS e 1 w B v n xs) (B2 m : Nat) (u : Value) (news : List Value) (hx : a.eval x = u) (hu : OwnS e 1 w B2 u m news)
    (h1 : ∀ y ∈ news, y.oneCell' = true) (hbytes : (n + m) * bytes ≤ 140737488355328) (hB : B ≤ w.heap.size)
    (hK : ∀ v' w', OwnS e 1 w' B v' (n + m) (xs ++ news) → w.grownBy w' v.ownBlock → (v'.ownBlock = v.ownBlock ∨ ∃ k, v'.ownBlock = some k ∧ w.heap.size ≤ k) → wpList P ops Q rest (a.put o.dst v') w') :
    wpList P ops Q (o :: rest) a w := by
  obtain ⟨i, hi', hz, hsize, hby⟩ := info_parts hi
  refine wpList_plain hgd fun K hK' => ?_
  obtain ⟨v', w', hrun, r1, r2, r3⟩ : ∃ v' w', (Builtin.append_ #[t, t] o.type #[v, u]).run P w = .ok v' w' ∧ OwnS e 1 w' B v' (n + m) (xs ++ news) ∧ w.grownBy w' v.ownBlock ∧ (v'.ownBlock = v.ownBlock ∨ ∃ k, v'.ownBlock = some k ∧ w.heap.size ≤ k) := by
    obtain ⟨g1, A2, c2, rfl, hn2, hc2, g2⟩ := hu
    have same : m = 0 → (∃ v' w', (Builtin.append_ #[t, t] o.type #[v, .slice A2 m c2]).run P w = .ok v' w' ∧ v' = v ∧ w' = w) → ∃ v' w', (Builtin.append_ #[t, t] o.type #[v, .slice A2 m c2]).run P w = .ok v' w' ∧ OwnS e 1 w' B v' (n + m) (xs ++ news) ∧ w.grownBy w' v.ownBlock ∧ (v'.ownBlock = v.ownBlock ∨ ∃ k, v'.ownBlock = some k ∧ w.heap.size ≤ k) := by
      rintro h0 ⟨v', w', hr, rfl, rfl⟩
      subst h0
      obtain rfl : news = [] := List.eq_nil_of_length_eq_zero (by simpa using g1)
      exact ⟨_, _, hr, by simpa using h, World.grownBy.refl _ _, .inl rfl⟩
    rcases g2 with ⟨rfl, rfl⟩ | ⟨g, off, cur, rfl, hg, hh, hsz, hcur⟩
    · have hm0 : m = 0 := by omega
      refine same hm0 ?_
      subst hm0
      obtain ⟨_, A, cp, rfl, hn, hc, _⟩ := h
      exact ⟨_, _, append_zero w t o.type e i ht hi' A none n cp _ hn, rfl, rfl⟩
    · rcases Nat.eq_zero_or_pos m with h0 | h0
      · refine same h0 ?_
        subst h0
        obtain ⟨_, A, cp, rfl, hn, hc, _⟩ := h
        exact ⟨_, _, append_zero w t o.type e i ht hi' A (some ⟨g, off, none⟩) n cp _ hn, rfl, rfl⟩
      · exact h.append_many (P := P) t o.type i z bytes ht hi' hz hsize hby hzs (by omega) ⟨g, off, none⟩ m c2 news (by simpa using g1) h0 (fun j y hj => by rw [Addr.add_lit]; simp [World.cell?, hh, hcur j y hj]) h1 hbytes hpos hB
  unfold Oper.wp execOp
  simp only [hop, resolve, invoke, builtin, Sem.run_bind, Sem.run_pure, Result.andThen_ok, List.map_toArray, List.map_cons, List.map_nil, hs, hx, hrun]
  exact hK' _ _ (hK v' w' r1 r2 r3)
/-- 'xs[:n]'. -/
theorem OwnS.init {P : Program} {e : TypeId} {w : World} {B n : Nat} {v x : Value} {xs : List Value} (h : OwnS e 1 w B v (n + 1) (xs ++ [x])) {t : TypeId} {i : TypeInfo} (ht : P.underlying t = some (.slice e)) (hi : P.info? e = some i) (kl : IntKind) :
    ∃ v', (∀ W : World, (Instr.slice t v none (some (.int kl (n : Int))) none).run P W = .ok v' W) ∧ OwnS e 1 w B v' n xs ∧ v'.ownBlock = v.ownBlock := by
  obtain ⟨h1, A, c, rfl, hn, hc, h2⟩ := h
  have hel : P.elem t = e := by simp [Program.elem, ht]
  have hu : P.underlying t = some (.slice (P.elem t)) := by rw [hel]; exact ht
  refine ⟨.slice A n c, fun W => ?_, ⟨by simp at h1 ⊢; omega, A, c, rfl, by omega, hc, h2.imp_right ?_⟩, ?_⟩
  · have := run_slice_h (P := P) W t A (n + 1) c hu kl (n : Int) (by omega) (by omega)
    rw [this, hel]
    cases A <;> simp [sizeOf, typeInfo, hi, sliced, Result.andThen, Addr.add]
  · rintro ⟨g, o, cur, hA, hg, hh, hs, hcur⟩
    refine ⟨g, o, cur, hA, hg, hh, hs, fun j u hj => hcur j u ?_⟩
    rw [List.getElem?_append_left (List.getElem?_eq_some_iff.1 hj).1]
    exact hj
  · cases A <;> simp [Value.ownBlock]
end Go.Proofs.Ytmnkgcnhmkggkaa

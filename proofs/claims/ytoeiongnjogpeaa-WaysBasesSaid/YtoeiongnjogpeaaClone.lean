/- Proved here: slices.Clone at []int hands back a slice of the call's own with the same numbers. Condition: the argument reads as at most 1000000 numbers. -/
import Derived.Test.YtoeiongnjogpeaaOwnAll
import Derived.Test.YtoeiongnjogpeaaChecked
import Derived.Lib.SliceRun
namespace Go.Proofs.Ytoeiongnjogpeaa
open Go.RowKit
theorem wp_append_zero {P : Program} {w : World} {ops : Array Oper} {rest : List Oper} {o : Oper} {a : Act} {Q : Exit → Act → World → Prop}
    (hgd : o.guard = none) (s x : Operand) (t : TypeId) (hop : o.op = Op.call { callee := Callee.builtin Builtin.append, args := #[s, x], argTypes := #[t, t] })
    (e : TypeId) (z : Value) (bytes : Nat) (ht : P.underlying t = some (.slice e)) (hi : (P.info? e).map (fun i => (i.zero, i.size, i.bytes)) = some (some z, 1, bytes))
    (A A2 : Option Addr) (n cp c2 : Nat) (hn : n ≤ cp) (hs : a.eval s = .slice A n cp) (hx : a.eval x = .slice A2 0 c2)
    (hK : wpList P ops Q rest (a.put o.dst (.slice A n cp)) w) : wpList P ops Q (o :: rest) a w := by
  obtain ⟨i, hi', _, _, _⟩ := info_parts hi
  refine wpList_plain hgd fun K hK' => ?_
  have hrun := append_zero (P := P) w t o.type e i ht hi' A A2 n cp c2 hn
  unfold Oper.wp execOp
  simp only [hop, resolve, invoke, builtin, Sem.run_bind, Sem.run_pure, Result.andThen_ok, List.map_toArray, List.map_cons, List.map_nil, hs, hx, hrun]
  exact hK' _ _ hK
set_option maxHeartbeats 1000000 in
theorem clone_any (F : Option Addr) (d : Nat) (f : List Int) (w : World) (hf : RdI w F f) (hlen : f.length ≤ 1000000) :
    Calls Try.prog 55 #[.slice F f.length d] w fun e w' => ∃ v, e = .returned v ∧ OwnS 3 1 w' w.heap.size v f.length (f.map (Value.int .i64)) ∧ Below w.heap.size w w' := by
  have hm := hf.1
  have q22 : ∀ (w : World) (a : Option Addr) (n c n' c' : Nat), (binOp .eql 25 (.slice a n c) (.slice none n' c')).run Try.prog w = .ok (.bool a.isNone) w := fun w a n c n' c' => Lib.run_eql_slice_nil w _ _ a n c n' c' Try.underlying25
  cases F with
  | none =>
    have h0 : f = [] := by
      rcases f with _ | ⟨x, f⟩
      · rfl
      · obtain ⟨a, ha, _⟩ := hf.2 0 (by simp)
        cases ha
    subst h0
    go_enter Try.func55, Try.ntmps55
    go_wp2_with fail
    go_ret
    exact ⟨_, rfl, OwnS.nil _ _ _ _, Below.refl _ _⟩
  | some a =>
    have HF := Lib.hid hf
    clear hf
    rcases Nat.eq_zero_or_pos f.length with h0 | h0
    · obtain rfl : f = [] := List.eq_nil_of_length_eq_zero h0
      go_enter Try.func55, Try.ntmps55
      go_wp2_with (at_builtin; refine wp_append_zero rfl _ _ 25 rfl 3 (.int .i64 0) 8 Try.underlying25 (by kernel_rfl) _ _ 0 0 _ (Nat.le_refl _) rfl rfl ?_)
      go_wp2_with fail
      go_ret
      refine ⟨_, rfl, ⟨rfl, _, 0, rfl, Nat.le_refl _, Nat.zero_le _, .inr ⟨w.heap.size, 0, #[], rfl, Nat.le_refl _, heap_alloc_new _ _, by simp, fun j u hj => by simp at hj⟩⟩, (Below.refl _ _).alloc (Nat.le_refl _) _⟩
    · obtain ⟨ti, t2, t3, t4, t5⟩ := info_parts (P := Try.prog) (e := 3) (z := .int .i64 0) (size := 1) (bytes := 8) (by kernel_rfl)
      have T2 := Lib.hid t2
      clear t2
      go_enter Try.func55, Try.ntmps55
      go_wp2_with (at_builtin; refine wpList_append_grows _ rfl _ _ 25 rfl 3 ti (.int .i64 0) 1 8 Try.underlying25 T2.out t3 t4 t5 rfl (by omega) _ 0 0 [] rfl (fun h => by cases h) rfl (fun b hb j u hj => by simp at hj) a f.length d (f.map (Value.int .i64)) rfl (by simp) ?hcell ?hone (by omega) (by simp only [maxLen]; omega) (by omega) ?_)
      case hcell =>
        intro j u hj
        have hjl : j < f.length := by
          have := (List.getElem?_eq_some_iff.1 hj).1
          simpa using this
        rw [List.getElem?_map, numAt_eq hjl] at hj
        simp at hj
        subst hj
        exact HF.out.at_ (box_below _ _) hjl
      case hone =>
        intro u hu
        obtain ⟨x, _, rfl⟩ := List.mem_map.1 hu
        rfl
      intro v' w3 ho hg
      have hO : OwnS 3 1 w3 w.heap.size v' f.length (f.map (Value.int .i64)) := by
        have h := (OwnS.of_row ho).mono (B' := w.heap.size) (by simp)
        simpa using h
      have hB : Below w.heap.size w w3 := ((Below.refl _ _).alloc (Nat.le_refl _) _).grown hg (by simp) (fun k hk => by cases hk)
      go_wp2_with fail
      go_ret
      exact ⟨_, rfl, hO, hB⟩
end Go.Proofs.Ytoeiongnjogpeaa

/- Proved here: append of one number to a slice of the call's own, as a step of a walk. -/
import Derived.Test.YtmnkgcnhmkggkaaAliveG
namespace Go.Proofs.Ytmnkgcnhmkggkaa
open Go.RowKit
/-- A slice of the call's own, of the numbers out. -/
def OwnI (w : World) (B : Nat) (v : Value) (out : List Int) : Prop := OwnS 3 1 w B v out.length (out.map (Value.int .i64))
theorem OwnI.nil (w : World) (B : Nat) : OwnI w B (.slice none 0 0) [] := OwnS.nil _ _ _ _
theorem OwnI.slice {w : World} {B : Nat} {v : Value} {out : List Int} (h : OwnI w B v out) : ∃ A c, v = .slice A out.length c := by
  obtain ⟨A, c, rfl, _, _⟩ := OwnS.slice h
  exact ⟨A, c, rfl⟩
theorem OwnI.rdI {w : World} {B n c : Nat} {A : Option Addr} {out : List Int} (h : OwnI w B (.slice A n c) out) : RdI w A out := by
  obtain ⟨A', c', e, _, _⟩ := OwnS.slice h
  cases e
  exact OwnS.rdI (B := B) (c := c) h
theorem OwnI.below {w w' : World} {B : Nat} {v : Value} {out : List Int} (h : OwnI w B v out) (hb : Below w.heap.size w w') : OwnI w' B v out := OwnS.below h hb
theorem wp_appI {ops : Array Oper} {rest : List Oper} {o : Oper} {a : Act} {Q : Exit → Act → World → Prop}
    (hgd : o.guard = none) (s x : Operand) (hop : o.op = Op.call { callee := Callee.builtin Builtin.append, args := #[s, x], argTypes := #[27, 27] })
    (w0 w : World) (v : Value) (out : List Int) (y : Int) (hs : a.eval s = v) (hx : a.eval x = .slice (some ⟨w.heap.size, 0, none⟩) 1 1)
    (h : OwnI w w0.heap.size v out) (hlen : out.length ≤ 1000000) (hb : Below w0.heap.size w0 w)
    (hK : ∀ A' c' w', Hid (OwnI w' w0.heap.size (.slice A' (out.length + 1) c') (out ++ [y])) → Hid (Below w0.heap.size w0 w') → wpList Try.prog ops Q rest (a.put o.dst (.slice A' (out.length + 1) c')) w') :
    wpList Try.prog ops Q (o :: rest) a (w.alloc (.cells #[.int .i64 y] 3)) := by
  have hsz := hb.size
  refine OwnS.wp_append hgd s x 27 hop 3 (.int .i64 0) 1 8 Try.underlying27 (by kernel_rfl) rfl (by omega) (by omega) w0.heap.size out.length v (out.map (Value.int .i64)) hs (OwnS.alloc h _) ⟨w.heap.size, 0, none⟩ 1 [.int .i64 y] hx rfl (box_cells _ #[.int .i64 y] 3 _ rfl) (by simp [Value.oneCell']) (by omega) (by simp; omega) ?_
  intro v' w' ho hg _
  obtain ⟨A', c', rfl, _, _⟩ := ho.slice
  exact hK A' c' w' (by
    show OwnS _ _ _ _ _ _ _
    have e1 : (out ++ [y]).length = out.length + 1 := by simp
    rw [e1, List.map_append]
    exact ho) ((hb.alloc hb.size _).grown hg (by simp; omega) (fun j hj => (OwnS.block h hj).1))
end Go.Proofs.Ytmnkgcnhmkggkaa

/- Proved here: how the law's struct of a map and two lists opens. Conditions: the argument is as the row gives it. -/
import Derived.Test.YtoeiongnjogpeaaOpenMap
namespace Go.Proofs.Ytoeiongnjogpeaa
open Go.ChangeShapes Go.WideShapes Go.Deep Go.RowKit
structure OpenA where
  V : MapA
  lifts : Option Addr
  runs : Option Addr
  lc : Nat
  rc : Nat
structure OpenM where
  m : MapM
  lifts : List Int
  runs : List Int
abbrev openV (V : OpenA) (x : OpenM) : Value := .agg #[.slice V.V.N x.m.nodes.length V.V.n, .slice V.V.L x.m.lifts.length V.V.l, .slice V.V.R x.m.runs.length V.V.r, .slice V.V.B x.m.bases.length V.V.b, .slice V.lifts x.lifts.length V.lc, .slice V.runs x.runs.length V.rc]
structure RdO (w : World) (V : OpenA) (x : OpenM) : Prop where
  m : RdM w V.V x.m
  lifts : RdI w V.lifts x.lifts
  runs : RdI w V.runs x.runs
theorem RdO.below {w w' : World} {V : OpenA} {m : OpenM} (h : RdO w V m) (hb : Below w.heap.size w w') : RdO w' V m := ⟨h.m.below hb, h.lifts.below hb, h.runs.below hb⟩
set_option maxRecDepth 100000 in
theorem open_open {H : Type} {enc : TypeId × Value → H} {W : World} {base : Nat} {v : Value} {d : DataW H} {p : List MemPlace}
    (hv : Value.okWide Try.prog W .any base 52 v) (h : DataW.Trod enc Try.prog W 0 (fun _ => true) true 52 v d p) :
    ∃ (V : OpenA) (m : OpenM) (_u : Unit), v = openV V m ∧ RdO W V m := by
  obtain ⟨cs, rfl, hsz⟩ := okWide_struct Try.underlying52 hv
  obtain ⟨fuel, hf⟩ := h
  obtain ⟨xs, n, _, _, hl, hxl, hat⟩ := DataW.trod_struct Try.underlying52 hf
  have hc6 : Try.prog.cellsOf 52 = 6 := by kernel_rfl
  rw [hc6] at hl
  have hcM : Try.prog.cellsOf 27 = 4 := by kernel_rfl
  have hcI : Try.prog.cellsOf 25 = 1 := by kernel_rfl
  obtain ⟨l⟩ := cs
  unfold Value.cells at hl hat
  simp only at hl hat
  have hxl : xs.length = 3 := hxl
  match l, hl with
  | [c0, c1, c2, c3, c4, c5], _ =>
    have h0 : DataW.trod enc Try.prog W 0 (fun _ => true) true n 27 (([c0, c1, c2, c3, c4, c5].drop 0).take (Try.prog.cellsOf 27)) = xs[0]? := hat 0 _ rfl
    have h1 : DataW.trod enc Try.prog W 0 (fun _ => true) true n 25 (([c0, c1, c2, c3, c4, c5].drop 4).take (Try.prog.cellsOf 25)) = xs[1]? := hat 1 _ rfl
    have h2 : DataW.trod enc Try.prog W 0 (fun _ => true) true n 25 (([c0, c1, c2, c3, c4, c5].drop 5).take (Try.prog.cellsOf 25)) = xs[2]? := hat 2 _ rfl
    rw [hcM, List.getElem?_eq_getElem (by omega)] at h0
    rw [hcI, List.getElem?_eq_getElem (by omega)] at h1
    rw [hcI, List.getElem?_eq_getElem (by omega)] at h2
    obtain ⟨V, m, e0, hr⟩ := open_mapT (cs := [c0, c1, c2, c3]) h0
    obtain ⟨A1, l1, p1, e1, r1, _⟩ := open_intsT (cs := [c4]) h1
    obtain ⟨A2, l2, p2, e2, r2, _⟩ := open_intsT (cs := [c5]) h2
    unfold mapC at e0
    simp only [List.cons.injEq, and_true] at e0 e1 e2
    obtain ⟨rfl, rfl, rfl, rfl⟩ := e0
    subst e1 e2
    exact ⟨⟨V, A1, A2, p1, p2⟩, ⟨m, l1, l2⟩, (), rfl, hr, r1, r2⟩
end Go.Proofs.Ytoeiongnjogpeaa

/- Proved here: one visit of the search does what stepV says. Conditions stand in visit_any. -/
import Derived.Test.YtambnjhopijkfaaProg
import Derived.Test.YtambnjhopijkfaaOwn
import Derived.Test.YtambnjhopijkfaaNet
import Derived.Maps.Own
namespace Go.Proofs.Ytambnjhopijkfaa
open Go.RowKit
def stepV (p : Int × Bool) : Value := .agg #[.int .i64 p.1, .bool p.2]
/-- The two variables of reach: the map of steps in block bm (its variable: sb), the open nodes (their variable: ob). -/
structure RS (w : World) (B sb ob bm : Nat) (m : Int → Option (Int × Bool)) (xs : List Int) : Prop where
  seen : w.heap[sb]? = some (.cells #[.map (some bm)] 43 (0, 0))
  opn : ∃ v n, w.heap[ob]? = some (.cells #[v] 23 (0, 0)) ∧ OwnS 3 1 w B v xs.length (xs.map (Value.int .i64)) ∧ IMap.IM w bm n (fun k => (m k).map stepV)
  base : B ≤ sb ∧ B ≤ ob ∧ B ≤ bm
/-- Blocks of cells of other types than int and []int stay. -/
def Keeps (w w' : World) : Prop := ∀ (i : Nat) (cs : Array Value) (t : TypeId) (fr : Nat × Nat), w.heap[i]? = some (.cells cs t fr) → t ≠ 3 → t ≠ 23 → w'.heap[i]? = some (.cells cs t fr)
theorem Keeps.refl (w : World) : Keeps w w := fun _ _ _ _ h _ _ => h
theorem Keeps.trans {a b c : World} (h : Keeps a b) (k : Keeps b c) : Keeps a c := fun i cs t fr hi h1 h2 => k i cs t fr (h i cs t fr hi h1 h2) h1 h2
theorem Keeps.below {w w' : World} (h : Below w.heap.size w w') : Keeps w w' := fun i cs t fr hi _ _ => by
  rw [h.block i (Array.getElem?_eq_some_iff.1 hi).1]; exact hi
theorem block_cell {w : World} {b : Nat} {cs : Array Value} {t : TypeId} {fr : Nat × Nat} (h : w.heap[b]? = some (.cells cs t fr)) {j : Nat} {v : Value} (hj : cs[j]? = some v) : w.cell? ⟨b, j, none⟩ = some v := by
  simp [World.cell?, h, hj]
theorem block_frozen {w : World} {b : Nat} {cs : Array Value} {t : TypeId} (h : w.heap[b]? = some (.cells cs t (0, 0))) (j : Nat) : w.frozen? ⟨b, j, none⟩ = false := by
  simp [World.frozen?, h]
def updS (m : Int → Option (Int × Bool)) (k : Int) (p : Int × Bool) : Int → Option (Int × Bool) := fun x => if x = k then some p else m x
theorem updS_map (m : Int → Option (Int × Bool)) (k : Int) (p : Int × Bool) (x : Int) : (updS m k p x).map stepV = IMap.upd (fun k => (m k).map stepV) k (some (stepV p)) x := by
  unfold updS IMap.upd
  split <;> rfl
theorem RS.below {w w' : World} {B sb ob bm : Nat} {m : Int → Option (Int × Bool)} {xs : List Int} (h : RS w B sb ob bm m xs) (hb : Below w.heap.size w w') : RS w' B sb ob bm m xs := by
  obtain ⟨h1, ⟨v, n, h2, h3, h4⟩, h5⟩ := h
  exact ⟨by rw [hb.block _ (Array.getElem?_eq_some_iff.1 h1).1]; exact h1, ⟨v, n, by rw [hb.block _ (Array.getElem?_eq_some_iff.1 h2).1]; exact h2, h3.below hb, h4.below hb h4.lt⟩, h5⟩

/-- A write to a map leaves every block of cells. -/
theorem grown_cells {w w' : World} {bm n : Nat} {m : Int → Option Value} (hm : IMap.IM w bm n m) (hg : w.grownBy w' (some bm)) {i : Nat} {cs : Array Value} {t : TypeId} {fr : Nat × Nat} (h : w.heap[i]? = some (.cells cs t fr)) : w'.heap[i]? = some (.cells cs t fr) := by
  have hne : i ≠ bm := by
    rintro rfl
    obtain ⟨es, c, hb, _⟩ := hm
    rw [h] at hb; cases hb
  rw [hg.block i (Array.getElem?_eq_some_iff.1 h).1 (fun e => hne (by injection e))]; exact h
theorem alloc_block {w : World} {i : Nat} {x : Obj} (h : w.heap[i]? = some x) (o : Obj) : (w.alloc o).heap[i]? = some x := by
  rw [heap_alloc_old w o (Array.getElem?_eq_some_iff.1 h).1]; exact h

set_option maxHeartbeats 1000000 in
theorem visit_old (k : Int) (p q : Int × Bool) (w : World) {B sb ob bm : Nat} {m : Int → Option (Int × Bool)} {xs : List Int} (h : RS w B sb ob bm m xs) (hk : m k = some q) :
    Calls Try.prog 41 #[.int .i64 k, stepV p, .pointer (some ⟨sb, 0, none⟩), .pointer (some ⟨ob, 0, none⟩)] w fun e w' => e = .returned (.tuple #[]) ∧ RS w' B sb ob bm m xs ∧ Below w.heap.size w w' := by
  have HR := Lib.hid h
  have hsb := (Array.getElem?_eq_some_iff.1 h.seen).1
  have c0 := block_cell h.seen (j := 0) (v := .map (some bm)) rfl
  obtain ⟨v, n, h2, h3, h4⟩ := h.opn
  have hlk := (h4.alloc (.cells #[.int .i64 p.1, .bool p.2] 46)).lookup_ok (P := Try.prog) Try.underlying43 Try.underlying3 (z := stepV (0, false)) (by kernel_rfl) k
  simp only [hk, Option.map_some, Option.getD_some, Option.isSome_some] at hlk
  unfold stepV at hlk ⊢
  clear h h2 h3 h4 hk
  go_enter Try.func41, Try.ntmps41
  go_wp2
  go_end0
  refine ⟨rfl, HR.out.below ?_, ?_⟩ <;> exact ((Below.refl _ _).alloc (Nat.le_refl _) _).alloc (by simp) _

set_option maxHeartbeats 1000000 in
theorem visit_new (k : Int) (p : Int × Bool) (w : World) {B sb ob bm : Nat} {m : Int → Option (Int × Bool)} {xs : List Int} (h : RS w B sb ob bm m xs) (hk : m k = none) (hlen : xs.length ≤ 1000000) (hB : B ≤ w.heap.size) :
    Calls Try.prog 41 #[.int .i64 k, stepV p, .pointer (some ⟨sb, 0, none⟩), .pointer (some ⟨ob, 0, none⟩)] w fun e w' => e = .returned (.tuple #[]) ∧ RS w' B sb ob bm (updS m k p) (xs ++ [k]) ∧ Below B w w' ∧ Keeps w w' := by
  have HR := Lib.hid h
  have hsb := (Array.getElem?_eq_some_iff.1 h.seen).1
  have c0 := block_cell h.seen (j := 0) (v := .map (some bm)) rfl
  obtain ⟨v, n, h2, h3, h4⟩ := h.opn
  have hlk := (h4.alloc (.cells #[.int .i64 p.1, .bool p.2] 46)).lookup_ok (P := Try.prog) Try.underlying43 Try.underlying3 (z := stepV (0, false)) (by kernel_rfl) k
  simp only [hk, Option.map_none, Option.getD_none, Option.isSome_none] at hlk
  have hob := (Array.getElem?_eq_some_iff.1 h2).1
  have d0 := block_cell h2 (j := 0) (v := v) rfl
  have H2 := Lib.hid h2
  have H3 := Lib.hid h3
  have H4 := Lib.hid h4
  have HK := Lib.hid hk
  have hF : ∀ w1 : World, ((w.alloc (.cells #[.int .i64 p.1, .bool p.2] 46)).alloc (.cells #[.int .i64 0, .bool false] 46)).grownBy w1 (some bm) →
      Below B w w1 ∧ w.heap.size + 2 ≤ w1.heap.size ∧ w1.heap[ob]? = some (.cells #[v] 23 (0, 0)) ∧ w1.heap[sb]? = some (.cells #[.map (some bm)] 43 (0, 0)) ∧ OwnS 3 1 w1 B v xs.length (xs.map (Value.int .i64)) ∧ Keeps w w1 := by
    intro w1 hg
    have hi0 := (h4.alloc (.cells #[.int .i64 p.1, .bool p.2] 46)).alloc (.cells #[.int .i64 0, .bool false] 46)
    have hs := hg.size
    simp at hs
    refine ⟨(((Below.refl _ _).alloc hB _).alloc (by simp; omega) _).grown hg (by simp; omega) (fun j hj => by cases hj; exact h.base.2.2), by omega, grown_cells hi0 hg (alloc_block (alloc_block h2 _) _), grown_cells hi0 hg (alloc_block (alloc_block h.seen _) _), ?_, ?_⟩
    · refine ((h3.alloc (.cells #[.int .i64 p.1, .bool p.2] 46)).alloc (.cells #[.int .i64 0, .bool false] 46)).move fun k hk => ?_
      obtain ⟨_, _, cur, hc⟩ := ((h3.alloc (.cells #[.int .i64 p.1, .bool p.2] 46)).alloc (.cells #[.int .i64 0, .bool false] 46)).block hk
      rw [grown_cells hi0 hg hc, hc]
    · intro i cs t fr hi _ _
      exact grown_cells hi0 hg (alloc_block (alloc_block hi _) _)
  have HF := Lib.hid hF
  unfold stepV at hlk ⊢
  clear h h2 h3 h4 hk hF
  go_enter Try.func41, Try.ntmps41
  go_wp2_with (first
    | (at_mapUpdate
       refine IMap.wp_update _ rfl _ _ _ 43 rfl 3 46 Try.underlying43 Try.underlying3 bm n _ rfl ((H4.out.alloc _).alloc _) _ (stepV p) rfl rfl ?_
       intro w1 hi1 hg1
       obtain ⟨hB1, hsz1, hob1, hsb1, ho1, hkp1⟩ := HF.out w1 hg1
       have e0 := block_cell hob1 (j := 0) (v := v) rfl
       have HI1 := Lib.hid hi1
       have HB1 := Lib.hid hB1
       have HOB1 := Lib.hid hob1
       have HSB1 := Lib.hid hsb1
       have HO1 := Lib.hid ho1
       have HKP1 := Lib.hid hkp1
       have HSZ1 := Lib.hid hsz1
       clear hi1 hg1 hB1 hsz1 hob1 hsb1 ho1 hkp1 hlk c0 d0)
    | (at_builtin
       refine OwnS.wp_append rfl _ _ 23 rfl 3 (.int .i64 0) 1 8 Try.underlying23 (by kernel_rfl) rfl (by omega) (by omega) B xs.length v (xs.map (Value.int .i64)) rfl (HO1.out.alloc _) ⟨_, 0, none⟩ 1 [.int .i64 k] rfl rfl (cell_one_new _ _ _) (by simp [Value.oneCell']) (by omega) (by have := HSZ1.out; simp; omega) ?_))
  intro v' w2 ho2 hg2 hbk2
  obtain ⟨A', c', rfl, hc1, hc2⟩ := ho2.slice
  have hb0 : (w1.alloc (.cells #[.int .i64 k] 3)).heap[ob]? = some (.cells #[v] 23 (0, 0)) := alloc_block HOB1.out _
  have hne : ∀ (j : Nat) (cs : Array Value) (t : TypeId) (fr : Nat × Nat), (w1.alloc (.cells #[.int .i64 k] 3)).heap[j]? = some (.cells cs t fr) → t ≠ 3 → w2.heap[j]? = some (.cells cs t fr) := by
    intro j cs t fr hj ht
    rw [hg2.block j (Array.getElem?_eq_some_iff.1 hj).1 (fun e => ?_)]
    · exact hj
    · obtain ⟨_, _, cur, hc⟩ := (HO1.out.alloc (.cells #[.int .i64 k] 3)).block e.symm
      rw [hj] at hc; cases hc; exact ht rfl
  have hob2 := hne _ _ _ _ hb0 (by decide)
  have hsb2 := hne _ _ _ _ (alloc_block HSB1.out (.cells #[.int .i64 k] 3)) (by decide)
  have f0 := block_cell hob2 (j := 0) (v := v) rfl
  have f1 := block_frozen hob2 0
  have HNE := Lib.hid hne
  have HOB2 := Lib.hid hob2
  have HSB2 := Lib.hid hsb2
  have HO2 := Lib.hid ho2
  have HG2 := Lib.hid hg2
  clear hne hob2 hsb2 ho2 hg2 hb0 hbk2 e0
  go_wp2
  go_end0
  have hob := HOB2.out
  have hbelow2 : Below B w w2 := (HB1.out.alloc (by have := HSZ1.out; omega) _).grown HG2.out (by have := HSZ1.out; simp; omega) (fun j hj => ((HO1.out.alloc (.cells #[.int .i64 k] 3)).block hj).1)
  have hbase := HR.out.base
  have hi2 := (HI1.out.alloc (.cells #[.int .i64 k] 3)).kept HG2.out (fun e => by
    obtain ⟨_, _, cur, hc⟩ := (HO1.out.alloc (.cells #[.int .i64 k] 3)).block e.symm
    obtain ⟨es, c, hb, _⟩ := HI1.out.alloc (.cells #[.int .i64 k] 3)
    rw [hc] at hb; cases hb)
  have hi3 := (hi2.setCell ⟨ob, 0, none⟩ (.slice A' (xs.length + 1) c')).congr (fun x => updS_map m k p x)
  refine ⟨rfl, ⟨?_, ⟨.slice A' (xs.length + 1) c', _, ?_, ?_, hi3⟩, hbase⟩, hbelow2.setCell hbase.2.1 _, ?_⟩
  · rw [Below.heap_setCell _ _ _ _ (fun e => ?_)]
    · exact HSB2.out
    · simp at e
      have := HSB2.out
      rw [e, hob] at this
      cases this
  · simp [World.setCell, Array.getElem?_modify, hob]
  · have : ((xs ++ [k]).map (Value.int .i64)) = xs.map (Value.int .i64) ++ [.int .i64 k] := by simp
    rw [this, List.length_append, List.length_singleton]
    refine HO2.out.move fun j hj => ?_
    rw [Below.heap_setCell _ _ _ _ (fun e => ?_)]
    obtain ⟨_, _, cur, hc⟩ := HO2.out.block hj
    simp at e
    rw [e, hob] at hc
    cases hc
  · intro i cs t fr hi h1 h2
    rw [Below.heap_setCell _ _ _ _ (fun e => ?_)]
    · exact HNE.out _ _ _ _ (alloc_block (HKP1.out _ _ _ _ hi h1 h2) _) h1
    · simp at e
      have := HNE.out _ _ _ _ (alloc_block (HKP1.out _ _ _ _ hi h1 h2) _) h1
      rw [e, hob] at this
      cases this
      exact h2 rfl
def mx (m : Int → Option (Int × Bool)) (k : Int) (p : Int × Bool) : Int → Option (Int × Bool) := if (m k).isSome then m else updS m k p
def ox (m : Int → Option (Int × Bool)) (xs : List Int) (k : Int) : List Int := if (m k).isSome then xs else xs ++ [k]
/-- flow.reach's visit -/
theorem visit_any (k : Int) (p : Int × Bool) (w : World) {B sb ob bm : Nat} {m : Int → Option (Int × Bool)} {xs : List Int} (h : RS w B sb ob bm m xs) (hlen : xs.length ≤ 1000000) (hB : B ≤ w.heap.size) :
    Calls Try.prog 41 #[.int .i64 k, .agg #[.int .i64 p.1, .bool p.2], .pointer (some ⟨sb, 0, none⟩), .pointer (some ⟨ob, 0, none⟩)] w fun e w' => e = .returned (.tuple #[]) ∧ RS w' B sb ob bm (mx m k p) (ox m xs k) ∧ Below B w w' ∧ Keeps w w' := by
  cases hk : m k with
  | none =>
    have e1 : mx m k p = updS m k p := by simp [mx, hk]
    have e2 : ox m xs k = xs ++ [k] := by simp [ox, hk]
    rw [e1, e2]
    exact visit_new k p w h hk hlen hB
  | some q =>
    have e1 : mx m k p = m := by simp [mx, hk]
    have e2 : ox m xs k = xs := by simp [ox, hk]
    rw [e1, e2]
    exact (visit_old k p q w h hk).mono fun e w' ⟨a, b, c⟩ => ⟨a, b, c.mono hB, Keeps.below c⟩
end Go.Proofs.Ytambnjhopijkfaa

/- Proved here: the look-up of a node by its number, in the package terrain and in the reference of chapter 10. Condition: the map reads. Written by gen_look.py. -/
import Derived.Test.YtoeiongnjogpeaaMapAll
import Derived.Test.YtoeiongnjogpeaaChecked
namespace Go.Proofs.Ytoeiongnjogpeaa
open Go.RowKit
def findNode (l : List NodeM) (i : Int) : Option NodeM := l.find? (fun e => decide (e.id = i))
def nodeR (l : List NodeM) (i : Int) : Value := match findNode l i with
  | none => .tuple #[.agg #[.int .i64 0, .int .i64 0], .bool false]
  | some e => .tuple #[.agg #[.int .i64 e.id, .int .i64 e.alt], .bool true]
theorem findNode_at {l : List NodeM} {i : Int} {k : Nat} (hk : k < l.length) (hp : (nodeAt l k).id = i) (hno : ∀ j, j < k → (nodeAt l j).id ≠ i) : findNode l i = some (nodeAt l k) := by
  unfold findNode
  rw [List.find?_eq_some_iff_getElem]
  refine ⟨decide_eq_true hp, k, hk, ?_, fun j hj => ?_⟩
  · have := nodeAt_eq hk
    rw [List.getElem?_eq_getElem hk] at this
    exact Option.some.inj this
  · have := nodeAt_eq (Nat.lt_trans hj hk)
    rw [List.getElem?_eq_getElem (Nat.lt_trans hj hk)] at this
    rw [Option.some.inj this]
    simpa using hno j hj
theorem findNode_no {l : List NodeM} {i : Int} (hno : ∀ j, j < l.length → (nodeAt l j).id ≠ i) : findNode l i = none := by
  unfold findNode
  rw [List.find?_eq_none]
  intro e he
  obtain ⟨j, hj, rfl⟩ := mem_nodeAt he
  simpa using hno j hj
theorem findNode_some {l : List NodeM} {i : Int} {e : NodeM} (h : findNode l i = some e) : e ∈ l ∧ e.id = i := by
  unfold findNode at h
  exact ⟨List.mem_of_find?_eq_some h, by have := List.find?_some h; simpa using this⟩
theorem findNode_none {l : List NodeM} {i : Int} (h : findNode l i = none) : ∀ e ∈ l, e.id ≠ i := by
  unfold findNode at h
  intro e he
  have := List.find?_eq_none.1 h e he
  simpa using this
theorem findNode_ix {l : List NodeM} {i : Int} {e : NodeM} (h : findNode l i = some e) : ∃ k, k < l.length ∧ nodeAt l k = e ∧ (nodeAt l k).id = i ∧ ∀ j, j < k → (nodeAt l j).id ≠ i := by
  unfold findNode at h
  rw [List.find?_eq_some_iff_getElem] at h
  obtain ⟨h1, k, hk, h2, h3⟩ := h
  have hat : ∀ j (hj : j < l.length), nodeAt l j = l[j] := fun j hj => by
    have := nodeAt_eq hj
    rw [List.getElem?_eq_getElem hj] at this
    exact (Option.some.inj this).symm
  refine ⟨k, hk, (hat k hk).trans h2, ?_, fun j hj => ?_⟩
  · rw [hat k hk, h2]; exact of_decide_eq_true h1
  · rw [hat j (Nat.lt_trans hj hk)]
    have := h3 j hj
    simpa using this
theorem node_stored {W : World} {H : Nat} {b0 b1 : Int} (h : W.heap[H]? = some (.cells #[.int .i64 b0, .int .i64 b1] 68 (0, 0))) (a0 a1 : Int) : ((W.setCell ⟨H, 0, none⟩ (.int .i64 a0)).setCell ⟨H, 1, none⟩ (.int .i64 a1)).heap[H]? = some (.cells #[.int .i64 a0, .int .i64 a1] 68 (0, 0)) := by
  have h0 : (W.setCell ⟨H, 0, none⟩ (.int .i64 a0)).heap[H]? = some (.cells #[.int .i64 a0, .int .i64 b1] 68 (0, 0)) := setc_heap h 0 _
  have h1 : ((W.setCell ⟨H, 0, none⟩ (.int .i64 a0)).setCell ⟨H, 1, none⟩ (.int .i64 a1)).heap[H]? = some (.cells #[.int .i64 a0, .int .i64 a1] 68 (0, 0)) := setc_heap h0 1 _
  exact h1
theorem node_zcells {W : World} {H : Nat} {b0 b1 : Int} (h : W.heap[H]? = some (.cells #[.int .i64 b0, .int .i64 b1] 68 (0, 0))) : W.cell? ⟨H, 0, none⟩ = some (.int .i64 b0) ∧ W.cell? ⟨H, 1, none⟩ = some (.int .i64 b1) := by
  refine ⟨?_, ?_⟩ <;> simp [World.cell?, h]
theorem node_zfroz {W : World} {H : Nat} {b0 b1 : Int} (h : W.heap[H]? = some (.cells #[.int .i64 b0, .int .i64 b1] 68 (0, 0))) : W.frozen? ⟨H, 0, none⟩ = false ∧ W.frozen? ⟨H, 1, none⟩ = false := by
  refine ⟨?_, ?_⟩ <;> simp [World.frozen?, h]
theorem node_setb {w W : World} {B H : Nat} (h : Below B w W) (hB : B ≤ H) (a0 a1 : Int) : Below B w ((W.setCell ⟨H, 0, none⟩ (.int .i64 a0)).setCell ⟨H, 1, none⟩ (.int .i64 a1)) := by
  have h0 : Below B w (W.setCell ⟨H, 0, none⟩ (.int .i64 a0)) := setc_below h hB _
  have h1 : Below B w ((W.setCell ⟨H, 0, none⟩ (.int .i64 a0)).setCell ⟨H, 1, none⟩ (.int .i64 a1)) := setc_below h0 hB _
  exact h1
set_option maxRecDepth 100000 in
set_option maxHeartbeats 4000000 in
theorem tnode1_any (e : NodeM) (g : Nat) (i : Int) (w : World) (h : w.cell? ⟨g, 0, none⟩ = some (.int .i64 i)) :
    Calls Try.prog 110 #[.agg #[.int .i64 e.id, .int .i64 e.alt], .pointer (some ⟨g, 0, none⟩)] w fun e' w' => e' = .returned (.bool (e.id == i)) ∧ Below w.heap.size w w' := by
  have y0 := ((box_below w (.cells #[.int .i64 e.id, .int .i64 e.alt] 68)).cell (World.block_lt_of_cell? w _ h)).trans h
  go_enter Try.func110, Try.ntmps110
  go_wp2_with fail
  go_ret
  exact ⟨rfl, box_below _ _⟩
set_option maxRecDepth 100000 in
set_option maxHeartbeats 4000000 in
theorem tnodeix_any (A : Option Addr) (c : Nat) (l : List NodeM) (g : Nat) (i : Int) (k0 : Nat) (hno : ∀ j, j < k0 → (nodeAt l j).id ≠ i) (hyes : k0 < l.length → (nodeAt l k0).id = i) (w : World) (hl : RdNode w A l) (h : w.cell? ⟨g, 0, none⟩ = some (.int .i64 i)) :
    Calls Try.prog 109 #[.slice A l.length c, .func (.func 110) #[] #[.pointer (some ⟨g, 0, none⟩)]] w fun e w' => e = .returned (.int .i64 (ixOf k0 l.length)) ∧ Below w.heap.size w w' := by
  have hm := hl.1
  have HL := Lib.hid hl
  have HC := Lib.hid (fun W (hb : Below w.heap.size w W) (e : NodeM) => tnode1_any e g i W ((hb.cell (World.block_lt_of_cell? w _ h)).trans h))
  have HNO := Lib.hid hno
  have HYES := Lib.hid hyes
  clear hl h hno hyes
  go_enter Try.func109, Try.ntmps109
  go_wp2_with fail
  go_loopw [8] (fun i wr => ∃ k : Nat, k ≤ k0 ∧ k ≤ l.length ∧ i = .int .i64 k ∧ Hid (Below w.heap.size w wr)) (fun i _ => l.length - (intOf i).toNat)
  case atStart => exact ⟨0, Nat.zero_le _, Nat.zero_le _, rfl, Below.refl _ _⟩
  case round =>
    obtain ⟨k, hk, hkl, rfl, HB⟩ := hrel
    by_cases hlt : k < l.length
    · have i1 : ((k : Int) < (l.length : Int)) := by omega
      obtain ⟨a, rfl⟩ := HL.out.addr hlt
      obtain ⟨x0, x1⟩ := HL.out.at_ HB.out hlt
      have HC1 := Lib.hid (HC.out wr HB.out (nodeAt l k))
      go_wp2_with fail
      refine HC1.out.mono ?_
      rintro e w1 ⟨rfl, hb⟩
      have HB1 := Lib.hid (below_in HB.out hb HB.out.size)
      clear hb HC1
      by_cases he : k = k0
      · have he' : ((nodeAt l k).id == i) = true := by simp [he, HYES.out (he ▸ hlt)]
        have HK := Lib.hid (show ixOf k0 l.length = k by unfold ixOf; rw [if_pos (by omega), he])
        clear he
        go_wp2_with fail
        go_ret
        exact ⟨by rw [HK.out]; rfl, HB1.out⟩
      · have he' : ((nodeAt l k).id == i) = false := by simpa using HNO.out k (by omega)
        have hk1 : k + 1 ≤ k0 := by omega
        clear he
        go_wp2_with fail
        go_roundw
        case rel => exact ⟨k + 1, hk1, by omega, by go_num, HB1.out⟩
        case measure => simp [intOf]; omega
    · have i1 : ¬ ((k : Int) < (l.length : Int)) := by omega
      have HK := Lib.hid (show ixOf k0 l.length = -1 by unfold ixOf; rw [if_neg (by omega)])
      go_wp2_with fail
      go_ret
      exact ⟨by rw [HK.out]; rfl, HB.out⟩
set_option maxRecDepth 100000 in
set_option maxHeartbeats 4000000 in
theorem tnode_any (V : MapA) (m : MapM) (i : Int) (w : World) (hm : RdM w V m) :
    Calls Try.prog 75 #[mapV V m, .int .i64 i] w fun e w' => e = .returned (nodeR m.nodes i) ∧ Below w.heap.size w w' := by
  obtain ⟨N_, L_, R_, B_, nc, lc, rc, bc⟩ := V
  have hl : RdNode w N_ m.nodes := hm.nodes
  have hlen := hl.1
  obtain ⟨W0, hW0⟩ : ∃ W0, W0 = ((w.alloc (.cells #[.slice N_ m.nodes.length nc, .slice L_ m.lifts.length lc, .slice R_ m.runs.length rc, .slice B_ m.bases.length bc] 27)).alloc (.cells #[.int .i64 i] 3)).alloc (.cells #[.int .i64 0, .int .i64 0] 68) := ⟨_, rfl⟩
  have hb0 : Below w.heap.size w W0 := by rw [hW0]; exact (((Below.refl _ _).alloc (Nat.le_refl _) _).alloc (by simp) _).alloc (by simp; omega) _
  have hc1 : W0.cell? ⟨w.heap.size + 1, 0, none⟩ = some (.int .i64 i) := by
    have h1 := box_cell (w.alloc (.cells #[.slice N_ m.nodes.length nc, .slice L_ m.lifts.length lc, .slice R_ m.runs.length rc, .slice B_ m.bases.length bc] 27)) #[.int .i64 i] 3 0 _ rfl
    have e1 : (w.alloc (.cells #[.slice N_ m.nodes.length nc, .slice L_ m.lifts.length lc, .slice R_ m.runs.length rc, .slice B_ m.bases.length bc] 27)).heap.size = w.heap.size + 1 := by simp
    rw [e1] at h1
    rw [hW0]
    exact ((box_below _ _).cell (World.block_lt_of_cell? _ _ h1)).trans h1
  have hcm : W0.cell? ⟨w.heap.size, 0, none⟩ = some (.slice N_ m.nodes.length nc) := by
    have h1 := box_cell w #[.slice N_ m.nodes.length nc, .slice L_ m.lifts.length lc, .slice R_ m.runs.length rc, .slice B_ m.bases.length bc] 27 0 _ rfl
    have h2 := ((box_below (w.alloc (.cells #[.slice N_ m.nodes.length nc, .slice L_ m.lifts.length lc, .slice R_ m.runs.length rc, .slice B_ m.bases.length bc] 27)) (.cells #[.int .i64 i] 3)).cell (World.block_lt_of_cell? _ _ h1)).trans h1
    rw [hW0]
    exact ((box_below _ _).cell (World.block_lt_of_cell? _ _ h2)).trans h2
  have hz : W0.heap[w.heap.size + 1 + 1]? = some (.cells #[.int .i64 0, .int .i64 0] 68 (0, 0)) := by
    have h1 := heap_alloc_new ((w.alloc (.cells #[.slice N_ m.nodes.length nc, .slice L_ m.lifts.length lc, .slice R_ m.runs.length rc, .slice B_ m.bases.length bc] 27)).alloc (.cells #[.int .i64 i] 3)) (.cells #[.int .i64 0, .int .i64 0] 68)
    have e1 : ((w.alloc (.cells #[.slice N_ m.nodes.length nc, .slice L_ m.lifts.length lc, .slice R_ m.runs.length rc, .slice B_ m.bases.length bc] 27)).alloc (.cells #[.int .i64 i] 3)).heap.size = w.heap.size + 1 + 1 := by simp
    rw [e1] at h1
    rw [hW0]; exact h1
  have HL := Lib.hid hl
  have HB0 := Lib.hid hb0
  have HC1 := Lib.hid hc1
  have hlk := hcm
  obtain ⟨k0, hk0, hres⟩ : ∃ k0, k0 ≤ m.nodes.length ∧ ((k0 < m.nodes.length ∧ (nodeAt m.nodes k0).id = i ∧ (∀ j, j < k0 → (nodeAt m.nodes j).id ≠ i)) ∨ (k0 = m.nodes.length ∧ ∀ j, j < k0 → (nodeAt m.nodes j).id ≠ i)) := by
    cases hf : findNode m.nodes i with
    | none => exact ⟨_, Nat.le_refl _, .inr ⟨rfl, fun j hj => findNode_none hf _ (nodeAt_mem hj)⟩⟩
    | some e =>
      obtain ⟨k, h1, h2, h3, h4⟩ := findNode_ix hf
      exact ⟨k, by omega, .inl ⟨h1, h3, h4⟩⟩
  have HIX := Lib.hid (tnodeix_any N_ nc m.nodes (w.heap.size + 1) i k0 (by rcases hres with h | h; exact h.2.2; exact h.2) (fun h => by rcases hres with h' | h'; exact h'.2.1; omega) W0 (hl.below hb0) hc1)
  clear hm hl hb0 hc1
  unfold mapV
  dsimp only
  go_enter Try.func75, Try.ntmps75
  rw [hW0] at hcm HIX
  go_wp2_with fail
  refine HIX.out.mono ?_
  rintro e w1 ⟨rfl, hb⟩
  rw [← hW0] at hb
  have hz1 := (hb.block _ (Array.getElem?_eq_some_iff.1 hz).1).trans hz
  have hcm1 := (hb.cell (World.block_lt_of_cell? _ _ hlk)).trans hlk
  have HB1 := Lib.hid (below_in HB0.out hb HB0.out.size)
  have hsz : w.heap.size ≤ W0.heap.size := HB0.out.size
  have HSZ := Lib.hid hsz
  clear hW0 HIX hcm hlk hb hz HC1 hsz
  rcases hres with ⟨h1, h2, h3⟩ | ⟨h1, h2⟩
  · have e1 : ixOf k0 m.nodes.length = (k0 : Int) := by unfold ixOf; rw [if_pos h1]
    rw [e1]
    have i1 : ((k0 : Int) < (m.nodes.length : Int)) := by omega
    have i2 : ¬ ((k0 : Int) < 0) := by omega
    obtain ⟨a, rfl⟩ := HL.out.addr h1
    obtain ⟨x0, x1⟩ := HL.out.at_ HB1.out h1
    have HE := Lib.hid (show nodeR m.nodes i = .tuple #[.agg #[.int .i64 (nodeAt m.nodes k0).id, .int .i64 (nodeAt m.nodes k0).alt], .bool true] by
      unfold nodeR
      rw [findNode_at h1 h2 h3])
    clear h2 h3
    obtain ⟨hth, hbz, hq, _⟩ := setcs (w := w) #[.int .i64 (nodeAt m.nodes k0).id, .int .i64 (nodeAt m.nodes k0).alt] HB1.out (H := w.heap.size + 1 + 1) (by omega) hz1 (by simp)
    obtain ⟨W5, hW5⟩ : ∃ W5, W5 = w1.setCells (w.heap.size + 1 + 1) 0 (#[.int .i64 (nodeAt m.nodes k0).id, .int .i64 (nodeAt m.nodes k0).alt] : Array Value).toList := ⟨_, rfl⟩
    rw [← hW5] at hbz hq
    have HBZ := Lib.hid hbz
    have HW5 := Lib.hid hW5
    clear hW5
    have q0 := hq 0 (.int .i64 (nodeAt m.nodes k0).id) rfl
    have q1 := hq 1 (.int .i64 (nodeAt m.nodes k0).alt) rfl
    clear hz1 hbz hq
    go_wp2_with (refine wpList_store_mid rfl 68 _ _ rfl (w.heap.size + 1 + 1) 0 #[.int .i64 (nodeAt m.nodes k0).id, .int .i64 (nodeAt m.nodes k0).alt] rfl rfl hth (by kernel_rfl) (by simp [Value.oneCell']) ?_; rw [← HW5.out])
    refine bodyPost_ret (v := .tuple #[.agg #[.int .i64 (nodeAt m.nodes k0).id, .int .i64 (nodeAt m.nodes k0).alt], .bool true]) (by simp [results, go_sem, q0, q1]) rfl ⟨by rw [HE.out], HBZ.out⟩
  · have e1 : ixOf k0 m.nodes.length = -1 := by unfold ixOf; rw [if_neg (by omega)]
    rw [e1]
    have HE := Lib.hid (show nodeR m.nodes i = .tuple #[.agg #[.int .i64 0, .int .i64 0], .bool false] by
      unfold nodeR
      rw [findNode_no (fun j hj => h2 j (by omega))])
    clear h2
    obtain ⟨hth, hbz, hq, _⟩ := setcs (w := w) #[.int .i64 0, .int .i64 0] HB1.out (H := w.heap.size + 1 + 1) (by omega) hz1 (by simp)
    obtain ⟨W5, hW5⟩ : ∃ W5, W5 = w1.setCells (w.heap.size + 1 + 1) 0 (#[.int .i64 0, .int .i64 0] : Array Value).toList := ⟨_, rfl⟩
    rw [← hW5] at hbz hq
    have HBZ := Lib.hid hbz
    have HW5 := Lib.hid hW5
    clear hW5
    have q0 := hq 0 (.int .i64 0) rfl
    have q1 := hq 1 (.int .i64 0) rfl
    clear hz1 hbz hq
    go_wp2_with (refine wpList_store_mid rfl 68 _ _ rfl (w.heap.size + 1 + 1) 0 #[.int .i64 0, .int .i64 0] rfl rfl hth (by kernel_rfl) (by simp [Value.oneCell']) ?_; rw [← HW5.out])
    refine bodyPost_ret (v := .tuple #[.agg #[.int .i64 0, .int .i64 0], .bool false]) (by simp [results, go_sem, q0, q1]) rfl ⟨by rw [HE.out], HBZ.out⟩
set_option maxRecDepth 100000 in
set_option maxHeartbeats 4000000 in
/-- The reference's. -/
theorem rnode_any (V : MapA) (m : MapM) (i : Int) (w : World) (hm : RdM w V m) :
    Calls Try.prog 39 #[mapV V m, .int .i64 i] w fun e w' => e = .returned (nodeR m.nodes i) ∧ Below w.heap.size w w' := by
  obtain ⟨N_, L_, R_, B_, nc, lc, rc, bc⟩ := V
  have hl : RdNode w N_ m.nodes := hm.nodes
  have hlen := hl.1
  have HL := Lib.hid hl
  have HB0 := Lib.hid (show Below w.heap.size w ((w.alloc (.cells #[.slice N_ m.nodes.length nc, .slice L_ m.lifts.length lc, .slice R_ m.runs.length rc, .slice B_ m.bases.length bc] 27)).alloc (.cells #[.int .i64 0, .int .i64 0] 68)) from ((Below.refl _ _).alloc (Nat.le_refl _) _).alloc (by simp) _)
  clear hm hl
  unfold mapV
  dsimp only
  go_enter Try.func39, Try.ntmps39
  go_wp2_with fail
  go_loop [6] (fun v => ∃ k : Nat, k ≤ m.nodes.length ∧ v = .int .i64 k ∧ Hid (∀ j, j < k → (nodeAt m.nodes j).id ≠ i)) (fun v => m.nodes.length - (intOf v).toNat)
  case atStart => exact ⟨0, Nat.zero_le _, rfl, fun j h => by omega⟩
  case round =>
    obtain ⟨k, hk, rfl, HI⟩ := hrel
    by_cases hlt : k < m.nodes.length
    · have i1 : ((k : Int) < (m.nodes.length : Int)) := by omega
      obtain ⟨a, rfl⟩ := HL.out.addr hlt
      obtain ⟨x0, x1⟩ := HL.out.at_ HB0.out hlt
      by_cases he : (nodeAt m.nodes k).id = i
      · have he' : ((nodeAt m.nodes k).id == i) = true := by simp [he]
        have HE := Lib.hid (show nodeR m.nodes i = .tuple #[.agg #[.int .i64 (nodeAt m.nodes k).id, .int .i64 (nodeAt m.nodes k).alt], .bool true] by
          unfold nodeR
          rw [findNode_at hlt he HI.out])
        clear he
        go_wp2_with fail
        refine bodyPost_ret (v := .tuple #[.agg #[.int .i64 (nodeAt m.nodes k).id, .int .i64 (nodeAt m.nodes k).alt], .bool true]) (by simp [results, go_sem]) rfl ⟨by rw [HE.out], ((Below.refl _ _).alloc (Nat.le_refl _) _).alloc (by simp) _⟩
      · have he' : ((nodeAt m.nodes k).id == i) = false := by simp [he]
        have HN := Lib.hid (show ∀ j, j < k + 1 → (nodeAt m.nodes j).id ≠ i from fun j hj => by
          rcases Nat.lt_or_ge j k with h | h
          · exact HI.out j h
          · have : j = k := by omega
            subst this
            exact he)
        clear he
        go_wp2_with fail
        go_round
        case rel => exact ⟨k + 1, by omega, by go_num, HN.out⟩
        case measure => simp [intOf]; omega
    · have HE := Lib.hid (show nodeR m.nodes i = .tuple #[.agg #[.int .i64 0, .int .i64 0], .bool false] by
        unfold nodeR
        rw [findNode_no (fun j hj => HI.out j (by omega))])
      have i1 : ¬ ((k : Int) < (m.nodes.length : Int)) := by omega
      go_wp2_with fail
      refine bodyPost_ret (v := .tuple #[.agg #[.int .i64 0, .int .i64 0], .bool false]) (by simp [results, go_sem]) rfl ⟨by rw [HE.out], ((Below.refl _ _).alloc (Nat.le_refl _) _).alloc (by simp) _⟩
end Go.Proofs.Ytoeiongnjogpeaa

/- Proved here: Find of the package flow returns a flow with a shut set, for two different nodes. Condition: accepted edges. -/
import Derived.Test.YtambnjhopijkfaaRoom
import Derived.Test.YtambnjhopijkfaaReach
import Derived.Laws.MakeOwn
import Derived.Deep.OwnRows
namespace Go.Proofs.Ytambnjhopijkfaa
open Go.RowKit
/-- Nothing more can flow from s to t: what can be reached. -/
structure MaxF (l : List Edge) (f : List Int) (s t : Int) (S : List Int) : Prop where
  flow : IsFlow l f s t
  src : s ∈ S
  dst : ¬ t ∈ S
  shut : ∀ (j : Nat) (b : Bool) (u k : Int), u ∈ S → Res l f j b u k → k ∈ S
  least : ∀ T : Int → Prop, T s → (∀ (j : Nat) (b : Bool) (u k : Int), T u → Res l f j b u k → T k) → ∀ k, k ∈ S → T k
theorem BFS.least {l : List Edge} {f : List Int} {s : Int} {m : Int → Option (Int × Bool)} {ord : List Int} (h : BFS l f s m ord) (T : Int → Prop) (hs : T s) (hc : ∀ (j : Nat) (b : Bool) (u k : Int), T u → Res l f j b u k → T k) : ∀ k, k ∈ ord → T k := by
  have key : ∀ (p : Nat) (k : Int), ord[p]? = some k → T k := by
    intro p
    induction p using Nat.strongRecOn with
    | _ p ih =>
      intro k hk
      rcases Nat.eq_zero_or_pos p with rfl | h0
      · obtain ⟨r, hr⟩ := h.head
        have hks : k = s := by rw [hr] at hk; simpa using hk.symm
        rw [hks]; exact hs
      · obtain ⟨j, b, u, a1, a2, a3⟩ := h.step p k hk h0
        obtain ⟨p', hp', hu⟩ := List.mem_iff_getElem.1 a3
        rw [List.length_take] at hp'
        rw [List.getElem_take] at hu
        exact hc j b u k (ih p' (by omega) u (by rw [List.getElem?_eq_getElem (by omega), hu])) a2
  intro k hk
  obtain ⟨p, hp, rfl⟩ := List.mem_iff_getElem.1 hk
  exact key p _ (List.getElem?_eq_getElem hp)
/-- Find's variables: l in lb, f in fb, its numbers in block g. -/
structure FI (l : List Edge) (A : Option Addr) (c : Nat) (w wr : World) (lb fb g : Nat) (f : List Int) : Prop where
  lbx : wr.heap[lb]? = some (.cells #[.slice A l.length c] 22 (0, 0))
  fbx : wr.heap[fb]? = some (.cells #[.slice (some ⟨g, 0, none⟩) l.length l.length] 23 (0, 0))
  own : OwnS 3 1 wr w.heap.size (.slice (some ⟨g, 0, none⟩) l.length l.length) l.length (f.map (Value.int .i64))
  below : Below w.heap.size w wr
theorem FI.of_below {l : List Edge} {A : Option Addr} {c : Nat} {w wr w' : World} {lb fb g : Nat} {f : List Int} (h : FI l A c w wr lb fb g f) (hb : Below wr.heap.size wr w') : FI l A c w w' lb fb g f :=
  ⟨by rw [hb.block _ (Array.getElem?_eq_some_iff.1 h.lbx).1]; exact h.lbx, by rw [hb.block _ (Array.getElem?_eq_some_iff.1 h.fbx).1]; exact h.fbx, h.own.below hb, below_in h.below hb h.below.size⟩
theorem FI.store {l : List Edge} {A : Option Addr} {c : Nat} {w wr : World} {lb fb g : Nat} {f : List Int} (h : FI l A c w wr lb fb g f) {j : Nat} (_hj : j < l.length) (y : Int) :
    FI l A c w (wr.setCell ⟨g, j, none⟩ (.int .i64 y)) lb fb g (f.set j y) := by
  have hst := h.own.store j (.int .i64 y)
  rw [Nat.zero_add] at hst
  obtain ⟨hB, _, cur, hc⟩ := h.own.block (k := g) rfl
  refine ⟨?_, ?_, by rw [List.map_set]; exact hst.1, h.below.setCell hB _⟩
  · rw [Below.heap_setCell _ _ _ _ (fun e => ?_)]
    · exact h.lbx
    · simp at e
      have := h.lbx
      rw [e, hc] at this
      cases this
  · rw [Below.heap_setCell _ _ _ _ (fun e => ?_)]
    · exact h.fbx
    · simp at e
      have := h.fbx
      rw [e, hc] at this
      cases this
theorem RdS.set {w : World} {a : Addr} {ps : List (Nat × Bool)} (h : RdS w (some a) ps) {g j : Nat} (hg : a.block ≠ g) (v : Value) : RdS (w.setCell ⟨g, j, none⟩ v) (some a) ps := by
  refine ⟨h.1, fun i hi => ?_⟩
  obtain ⟨a', ha, h0, h1⟩ := h.2 i hi
  cases ha
  have hb : (a.add (i * 2)).block = a.block := by unfold Addr.add; split <;> rfl
  refine ⟨a, rfl, ?_, ?_⟩
  · rw [World.cell?_of_block (w := w) (Below.heap_setCell _ _ _ _ (by rw [hb]; exact hg))]; exact h0
  · rw [World.cell?_of_block (w := w) (Below.heap_setCell _ _ _ _ (by show (a.add (i * 2)).block ≠ g; rw [hb]; exact hg))]; exact h1
theorem take_step {ps : List (Nat × Bool)} {q : Nat} (h : q < ps.length) : ps.take (q + 1) = ps.take q ++ [stepAt ps q] := by
  rw [List.take_add_one, stepAt_eq h]; rfl
theorem augL_snoc (n : Int) (f : List Int) (ps : List (Nat × Bool)) (p : Nat × Bool) : augL n f (ps ++ [p]) = applyS n (augL n f ps) p := by
  simp [augL]
def zeros (n : Nat) : List Int := List.replicate n 0
theorem zeros_flow (l : List Edge) (s t : Int) (hr : Right l) : IsFlow l (zeros l.length) s t ∧ net l (zeros l.length) s = 0 := by
  have h0 : ∀ (l : List Edge) (k : Int), net l (zeros l.length) k = 0 := by
    intro l k
    induction l with
    | nil => rfl
    | cons a l ih =>
      show net (a :: l) (0 :: zeros l.length) k = 0
      simp [net, ih]
  refine ⟨⟨by simp [zeros], fun i hi => ?_, fun k _ _ => h0 l k⟩, h0 l s⟩
  have : numAt (zeros l.length) i = 0 := by simp [numAt, zeros, List.getD_eq_getElem?_getD, hi]
  rw [this]
  exact ⟨by omega, (right_cost hr hi).1⟩

set_option maxRecDepth 100000 in
set_option maxHeartbeats 4000000 in
/-- flow.Find, different nodes -/
theorem find_ne (A : Option Addr) (c : Nat) (l : List Edge) (s t : Int) (w : World) (hl : RdE w A l) (hr : Right l) (hst : s ≠ t) :
    Calls Try.prog 19 #[.slice A l.length c, .int .i64 s, .int .i64 t] w fun e w' => ∃ v f S, e = .returned v ∧ OwnS 3 1 w' w.heap.size v l.length (f.map (Value.int .i64)) ∧ MaxF l f s t S ∧ Below w.heap.size w w' := by
  have hm := hl.1
  have h200 := hr.len
  have hmk : ∀ W : World, (Instr.makeSlice 23 (.int .i64 (l.length : Int)) (.int .i64 (l.length : Int))).run Try.prog W = .ok (.slice (some ⟨W.heap.size, 0, none⟩) l.length l.length) (W.alloc (.cells (madeCells #[.int .i64 0] l.length) 3)) :=
    fun W => run_make_row' 23 3 (.int .i64 0) 8 Try.underlying23 (by kernel_rfl) rfl .i64 .i64 l.length (by omega) (by omega) W
  have HL := Lib.hid hl
  have HR := Lib.hid hr
  have hne : (s == t) = false := by simpa using hst
  have HST := Lib.hid hst
  clear hl hr hst
  go_enter Try.func19, Try.ntmps19
  go_wp2_with fail
  have HS : Hid (FI l A c w (((w.alloc (.cells #[.slice A l.length c] 22)).alloc (.cells (madeCells #[.int .i64 0] l.length) 3)).alloc (.cells #[.slice (some ⟨w.heap.size + 1, 0, none⟩) l.length l.length] 23)) w.heap.size (w.heap.size + 1 + 1) (w.heap.size + 1) (zeros l.length)) := by
    have e1 : (w.alloc (.cells #[.slice A l.length c] 22)).heap.size = w.heap.size + 1 := by simp
    have e2 : ((w.alloc (.cells #[.slice A l.length c] 22)).alloc (.cells (madeCells #[.int .i64 0] l.length) 3)).heap.size = w.heap.size + 1 + 1 := by simp
    refine ⟨alloc_block (alloc_block (heap_alloc_new _ _) _) _, ?_, ⟨by simp [zeros], _, l.length, rfl, Nat.le_refl _, by simp only [maxLen]; omega, .inr ⟨w.heap.size + 1, 0, madeCells #[.int .i64 0] l.length, rfl, by omega, ?_, by simp [size_madeCells], fun j u hj => ?_⟩⟩, ((((Below.refl _ _).alloc (Nat.le_refl _) _).alloc (by simp) _).alloc (by simp; omega) _)⟩
    · have := heap_alloc_new ((w.alloc (.cells #[.slice A l.length c] 22)).alloc (.cells (madeCells #[.int .i64 0] l.length) 3)) (.cells #[.slice (some ⟨w.heap.size + 1, 0, none⟩) l.length l.length] 23)
      rwa [e2] at this
    · have := heap_alloc_new (w.alloc (.cells #[.slice A l.length c] 22)) (.cells (madeCells #[.int .i64 0] l.length) 3)
      rw [e1] at this
      exact alloc_block this _
    · have hjl : j < l.length := by
        have := (List.getElem?_eq_some_iff.1 hj).1
        simpa [zeros] using this
      simp [zeros, hjl] at hj
      subst hj
      simp [madeCells, hjl, Nat.mod_one]
  obtain ⟨W, hW⟩ : ∃ W, W = (((w.alloc (.cells #[.slice A l.length c] 22)).alloc (.cells (madeCells #[.int .i64 0] l.length) 3)).alloc (.cells #[.slice (some ⟨w.heap.size + 1, 0, none⟩) l.length l.length] 23)) := ⟨_, rfl⟩
  rw [← hW] at HS ⊢
  clear hW hmk
  obtain ⟨fb, hfb⟩ : ∃ fb, fb = w.heap.size + 1 + 1 := ⟨_, rfl⟩
  rw [← hfb] at HS ⊢
  obtain ⟨g, hg⟩ : ∃ g, g = w.heap.size + 1 := ⟨_, rfl⟩
  rw [← hg] at HS ⊢
  clear hfb hg
  obtain ⟨lb, hlb⟩ : ∃ lb, lb = w.heap.size := ⟨_, rfl⟩
  go_loopg [] 200000001 (fun gh wr => ∃ f : List Int, Hid ((gh : Int) + net l f s = 200000001) ∧ Hid (IsFlow l f s t) ∧ Hid (FI l A c w wr w.heap.size fb g f))
  case atStart => exact ⟨zeros l.length, by have := (zeros_flow l s t HR.out).2; simp only [Hid, this]; rfl, (zeros_flow l s t HR.out).1, HS.out⟩
  case round =>
    clear HS hlb
    obtain ⟨f, HG, HF, HI⟩ := hrel
    have HN := Lib.hid HF.out.len
    have e0 := block_cell HI.out.lbx (j := 0) (v := .slice A l.length c) rfl
    have e1 := block_cell HI.out.fbx (j := 0) (v := .slice (some ⟨g, 0, none⟩) l.length l.length) rfl
    have hcall := reach_any A (some ⟨g, 0, none⟩) c l.length l f s wr (HL.out.below HI.out.below) HI.out.own.rdI HF.out.len h200
    rw [HF.out.len] at hcall
    have HC := Lib.hid hcall
    clear hcall
    go_wp2_with fail
    refine HC.out.mono ?_
    rintro e w1 ⟨nm, m, ord, rfl, hi, hbfs, hshut, hb⟩
    have hI1 := HI.out.of_below hb
    have hlk := hi.lookup_ok (P := Try.prog) Try.underlying43 Try.underlying3 (z := stepV (0, false)) (by kernel_rfl) t
    have HBFS := Lib.hid hbfs
    have HSHUT := Lib.hid hshut
    have HIM := Lib.hid hi
    have HI1 := Lib.hid hI1
    cases hmt : m t with
    | none =>
      rw [hmt] at hlk
      simp only [Option.map_none, Option.getD_none, Option.isSome_none, stepV] at hlk
      have HB1 := box_below w1 (.cells #[.int .i64 0, .bool false] 46)
      have hI2 := HI1.out.of_below HB1
      have y1 := block_cell hI2.fbx (j := 0) (v := .slice (some ⟨g, 0, none⟩) l.length l.length) rfl
      have HMAX := Lib.hid (show MaxF l f s t ord from ⟨HF.out, (by
          obtain ⟨r, hr⟩ := hbfs.head
          rw [hr]; simp), (fun hh => by
          have := (hbfs.keys t).2 hh
          rw [hmt] at this; cases this), fun j b u k hu hres => hshut u hu j b k hres.1 hres, fun T h1 h2 => hbfs.least T h1 h2⟩)
      have HI2 := Lib.hid hI2
      clear hi hbfs hshut hb hI1 hI2 HB1 hmt e0 e1
      go_wp2
      go_ret
      exact ⟨_, f, ord, rfl, HI2.out.own, HMAX.out, HI2.out.below⟩
    | some q =>
      rw [hmt] at hlk
      simp only [Option.map_some, Option.getD_some, Option.isSome_some, stepV] at hlk
      have hmem : t ∈ ord := (hbfs.keys t).1 (by rw [hmt]; rfl)
      obtain ⟨p, hp, hpt⟩ := List.mem_iff_getElem.1 hmem
      obtain ⟨full, hfol, hsteps, _, hdist, hflen⟩ := hbfs.path p t (by rw [List.getElem?_eq_getElem hp, hpt])
      have HB1 := box_below w1 (.cells #[.int .i64 q.1, .bool q.2] 46)
      have hI2 := HI1.out.of_below HB1
      have y0 := block_cell hI2.lbx (j := 0) (v := .slice A l.length c) rfl
      have hol := hbfs.length
      have HC2 := Lib.hid (path_any A c l wr.heap.size nm m s t full (w1.alloc (.cells #[.int .i64 q.1, .bool q.2] 46)) (HL.out.below hI2.below) (hi.alloc _) hfol (by omega))
      have HSTEPS := Lib.hid hsteps
      have HDIST := Lib.hid hdist
      have HFL := Lib.hid (show full.length ≤ 1000 by omega)
      have HI2 := Lib.hid hI2
      clear hi hbfs hshut hb hI1 hI2 HB1 hmt e0 e1 hmem hp hpt hfol hsteps hdist hflen hol
      go_wp2_with fail
      refine HC2.out.mono ?_
      rintro e w2 ⟨v, rfl, ho, hb⟩
      obtain ⟨A1, c1, rfl, hc1, hc2⟩ := ho.slice
      have hrd := ho.rdS rfl
      have h0 : 0 < full.length := by
        rcases full with _ | ⟨p0, ps⟩
        · exact absurd HSTEPS.out.symm HST.out
        · simp
      obtain ⟨a, rfl⟩ : ∃ a, A1 = some a := by
        obtain ⟨a, ha, _⟩ := hrd.2 0 h0
        exact ⟨a, ha⟩
      have hI3 := HI2.out.of_below hb
      have hag : a.block ≠ g := by
        intro e
        obtain ⟨_, _, cur, hc⟩ := ho.block (k := a.block) rfl
        obtain ⟨_, _, cur', hc'⟩ := hI3.own.block (k := g) rfl
        rw [e, hc'] at hc
        cases hc
      have HAG := Lib.hid hag
      clear hag
      obtain ⟨_, ha, x0, x1⟩ := hrd.2 0 h0
      cases ha
      have ha0 : a.add (0 * 2) = a := by simp [Addr.add]
      rw [ha0] at x0 x1
      clear ha0
      have hj0 := (HSTEPS.out.res _ (List.mem_of_getElem? (stepAt_eq h0))).1
      have hroom : ∀ (p : Nat × Bool) (W : World), FI l A c w W w.heap.size fb g f → p.1 < l.length → Calls Try.prog 33 #[.agg #[.int .i64 (p.1 : Int), .bool p.2], .pointer (some ⟨fb, 0, none⟩), .pointer (some ⟨w.heap.size, 0, none⟩)] W fun e w' => e = .returned (.int .i64 (room l f p)) ∧ Below W.heap.size W w' := by
        intro p W hfi hp
        have hfb' := hfi.fbx
        rw [← HF.out.len] at hfb'
        exact room_any A (some ⟨g, 0, none⟩) c f.length w.heap.size fb l f p W (HL.out.below hfi.below) hfi.own.rdI HF.out.len hp hfi.lbx hfb' ⟨(HF.out.cap _ hp).1, (HF.out.cap _ hp).2, (right_cost HR.out hp).2⟩
      have HROOM := Lib.hid hroom
      have HI3 := Lib.hid hI3
      have HRD := Lib.hid hrd
      clear ho hb hrd hI3 hroom HC2 HI2
      go_wp2_with fail
      refine (HROOM.out _ _ HI3.out hj0).mono ?_
      rintro e w3 ⟨rfl, hb⟩
      have HI4 := Lib.hid (HI3.out.of_below hb)
      have HRD4 := Lib.hid (HRD.out.below hb)
      have hfl := HRD.out.1
      have hr0 : 0 < room l f (stepAt full 0) ∧ room l f (stepAt full 0) ≤ 1000000 := by
        have h1 := HSTEPS.out.res _ (List.mem_of_getElem? (stepAt_eq h0))
        have h2 := HF.out.cap _ h1.1
        have h3 := (right_cost HR.out h1.1).2
        refine ⟨h1.2, ?_⟩
        unfold room
        split <;> omega
      have HR0 := Lib.hid hr0
      clear hb HI3 HRD hr0 x0 x1 y0
      go_wp2
      go_loopw [13, 51] (fun nv i wr => ∃ (k : Nat) (n : Int), k ≤ full.length ∧ i = .int .i64 k ∧ nv = .int .i64 n ∧ 0 < n ∧ n ≤ 1000000 ∧ Hid (∀ j, j < k → n ≤ room l f (stepAt full j)) ∧ Hid (FI l A c w wr w.heap.size fb g f) ∧ Hid (RdS wr (some a) full)) (fun _ i _ => full.length - (intOf i).toNat)
      case atStart => exact ⟨0, _, Nat.zero_le _, rfl, rfl, HR0.out.1, HR0.out.2, fun j hj => by omega, HI4.out, HRD4.out⟩
      case round =>
        clear HI4 HRD4 HR0
        obtain ⟨k, n, hk, rfl, rfl, hn1, hn2, HA, HI5, HRD5⟩ := hrel
        by_cases hklt : k < full.length
        · obtain ⟨_, ha, x0, x1⟩ := HRD5.out.2 k hklt
          cases ha
          have hjk := (HSTEPS.out.res _ (List.mem_of_getElem? (stepAt_eq hklt))).1
          have hrk := (HSTEPS.out.res _ (List.mem_of_getElem? (stepAt_eq hklt))).2
          have HBX := box_below wr (.cells #[.int .i64 ((stepAt full k).1 : Int), .bool (stepAt full k).2] 46)
          have HI6 := Lib.hid (HI5.out.of_below HBX)
          have HRD6 := Lib.hid (HRD5.out.below HBX)
          have z0 := box_cell wr #[.int .i64 ((stepAt full k).1 : Int), .bool (stepAt full k).2] 46 0 _ rfl
          have z1 := box_cell wr #[.int .i64 ((stepAt full k).1 : Int), .bool (stepAt full k).2] 46 1 _ rfl
          clear HBX
          go_wp2_with fail
          refine (HROOM.out _ _ HI6.out hjk).mono ?_
          rintro e w4 ⟨rfl, hb⟩
          have HI7 := Lib.hid (HI6.out.of_below hb)
          have HRD7 := Lib.hid (HRD6.out.below hb)
          clear hb HI6 HRD6 HI5 HRD5 x0 x1 z0 z1
          go_wp2
          refine ⟨⟨k + 1, if room l f (stepAt full k) < n then room l f (stepAt full k) else n, by omega, by go_num, rfl, ?_, ?_, fun j hj => ?_, HI7.out, HRD7.out⟩, by simp [intOf]; omega⟩
          · split <;> omega
          · split <;> omega
          · rcases Nat.lt_or_ge j k with h | h
            · have := HA.out j h
              split <;> omega
            · have : j = k := by omega
              subst this
              split <;> omega
        · have hall : ∀ p, p ∈ full → n ≤ room l f p := by
            intro p hp
            obtain ⟨j, hj, rfl⟩ := List.mem_iff_getElem.1 hp
            have h1 := stepAt_eq hj
            rw [List.getElem?_eq_getElem hj] at h1
            rw [Option.some.inj h1]
            exact HA.out j (by omega)
          have haug := HF.out.aug HSTEPS.out HDIST.out hall (by omega) HST.out
          have HAUG := Lib.hid haug
          have HALL := Lib.hid hall
          clear haug hall HA
          go_wp2
          go_loopw [63] (fun i wr => ∃ (k : Nat), k ≤ full.length ∧ i = .int .i64 k ∧ Hid (FI l A c w wr w.heap.size fb g (augL n f (full.take k))) ∧ Hid (RdS wr (some a) full)) (fun i _ => full.length - (intOf i).toNat)
          case atStart => exact ⟨0, Nat.zero_le _, rfl, by rw [List.take_zero]; exact HI5.out, HRD5.out⟩
          case round =>
            clear HI5 HRD5
            obtain ⟨q, hq, rfl, HI5, HRD5⟩ := hrel
            by_cases hqlt : q < full.length
            · obtain ⟨_, ha, x0, x1⟩ := HRD5.out.2 q hqlt
              cases ha
              have hjq := (HSTEPS.out.res _ (List.mem_of_getElem? (stepAt_eq hqlt))).1
              have HBX := box_below wr (.cells #[.int .i64 ((stepAt full q).1 : Int), .bool (stepAt full q).2] 46)
              have HI6 := Lib.hid (HI5.out.of_below HBX)
              have HRD6 := Lib.hid (HRD5.out.below HBX)
              have z0 := box_cell wr #[.int .i64 ((stepAt full q).1 : Int), .bool (stepAt full q).2] 46 0 _ rfl
              have z1 := box_cell wr #[.int .i64 ((stepAt full q).1 : Int), .bool (stepAt full q).2] 46 1 _ rfl
              have y1 := block_cell HI6.out.fbx (j := 0) (v := .slice (some ⟨g, 0, none⟩) l.length l.length) rfl
              have hfl' : (augL n f (full.take q)).length = l.length := by rw [augL_length]; exact HN.out
              obtain ⟨g', o', hA', hc0, hc1⟩ := HI6.out.own.cell (j := (stepAt full q).1) (u := .int .i64 (numAt (augL n f (full.take q)) (stepAt full q).1)) (by rw [List.getElem?_map, numAt_eq (by omega)]; rfl)
              cases hA'
              rw [Nat.zero_add] at hc0 hc1
              have hval : numAt (augL n f (full.take q)) (stepAt full q).1 = numAt f (stepAt full q).1 := by
                refine aug_other n _ f _ (fun p hp => by rw [HN.out]; exact (HSTEPS.out.res p (List.mem_of_mem_take hp)).1) ?_
                intro hm
                rw [List.map_take] at hm
                obtain ⟨i, hi, hie⟩ := List.mem_iff_getElem.1 hm
                rw [List.length_take, List.length_map] at hi
                rw [List.getElem_take] at hie
                have h2 : (full.map (·.1))[q]'(by rw [List.length_map]; exact hqlt) = (stepAt full q).1 := by
                  rw [List.getElem_map]
                  have := stepAt_eq hqlt
                  rw [List.getElem?_eq_getElem hqlt] at this
                  rw [Option.some.inj this]
                have := (List.getElem_inj (h₀ := by rw [List.length_map]; omega) (h₁ := by rw [List.length_map]; exact hqlt) HDIST.out).1 (hie.trans h2.symm)
                omega
              have hv0 : 0 ≤ numAt (augL n f (full.take q)) (stepAt full q).1 := by rw [hval]; exact (HF.out.cap _ hjq).1
              have hv1 : numAt (augL n f (full.take q)) (stepAt full q).1 ≤ 1000000 := by rw [hval]; exact Int.le_trans (HF.out.cap _ hjq).2 (right_cost HR.out hjq).2
              have i1 : (((stepAt full q).1 : Int) < (l.length : Int)) := by omega
              have HT := Lib.hid (take_step hqlt)
              have HJ := Lib.hid hjq
              clear HBX hval
              have hst := fun y => HI6.out.store (by omega : (stepAt full q).1 < l.length) y
              have HSTO := Lib.hid hst
              have HFL' := Lib.hid hfl'
              clear hst hfl' HI5 HRD5
              cases hb : (stepAt full q).2
              all_goals
                rw [hb] at x1 z0 z1 y1 hc0 hc1 HI6 HRD6 HSTO
                have HBB := Lib.hid hb
                clear hb
                go_wp2
                refine ⟨⟨q + 1, by omega, by go_num, ?_, HRD6.out.set HAG.out _⟩, by simp [intOf]; omega⟩
                rw [HT.out, augL_snoc]
                unfold applyS
                rw [HBB.out]
                have := HI6.out.store HJ.out
                exact this _
            · have e1 : full.take q = full := List.take_of_length_le (by omega)
              rw [e1] at HI5
              clear e1
              have hval : net l (augL n f full) s = net l f s + n := HAUG.out.2
              have hbd := net_bound s l (augL n f full) (fun i hi => ⟨(HAUG.out.1.cap i hi).1, Int.le_trans (HAUG.out.1.cap i hi).2 (right_cost HR.out hi).2⟩)
              have hgh := HG.out
              have HV := Lib.hid (show ((200000001 - net l (augL n f full) s).toNat : Int) + net l (augL n f full) s = 200000001 ∧ (200000001 - net l (augL n f full) s).toNat < gk by omega)
              clear hval hbd hgh
              go_wp2
              go_roundg (200000001 - net l (augL n f full) s).toNat
              case measure => exact HV.out.2
              case rel => exact ⟨augL n f full, HV.out.1, HAUG.out.1, HI5.out⟩
end Go.Proofs.Ytambnjhopijkfaa

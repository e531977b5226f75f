/- Proved here: the function reachable of the package flow makes the table of the search. Condition: accepted edges, a list of as many numbers. -/
import Derived.Test.YtambnjhopijkfaaBfs
namespace Go.Proofs.Ytambnjhopijkfaa
open Go.RowKit
theorem RS.start (s : Int) (w w1 : World) {n : Nat} (hi : IMap.IM w1 w.heap.size n (IMap.upd (fun _ => none) s (some (stepV (-1, false))))) (hg : (w.alloc (.map #[] 0)).grownBy w1 (some w.heap.size)) :
    RS (((w1.alloc (.cells #[.map (some w.heap.size)] 43)).alloc (.cells #[.int .i64 s] 3)).alloc (.cells #[.slice (some ⟨w1.heap.size + 1, 0, none⟩) 1 1] 23)) w.heap.size w1.heap.size (w1.heap.size + 1 + 1) w.heap.size (updS (fun _ => none) s (-1, false)) [s] ∧
    Below w.heap.size w (((w1.alloc (.cells #[.map (some w.heap.size)] 43)).alloc (.cells #[.int .i64 s] 3)).alloc (.cells #[.slice (some ⟨w1.heap.size + 1, 0, none⟩) 1 1] 23)) := by
  have hs := hg.size
  simp at hs
  have e0 : ((w1.alloc (.cells #[.map (some w.heap.size)] 43)).alloc (.cells #[.int .i64 s] 3)).heap.size = w1.heap.size + 2 := by simp
  have e1 : (w1.alloc (.cells #[.map (some w.heap.size)] 43)).heap.size = w1.heap.size + 1 := by simp
  refine ⟨⟨alloc_block (alloc_block (heap_alloc_new _ _) _) _, ⟨.slice (some ⟨w1.heap.size + 1, 0, none⟩) 1 1, n, ?_, ?_, (((hi.congr (fun k => updS_map (fun _ => none) s (-1, false) k)).alloc _).alloc _).alloc _⟩, by omega, by omega, by omega⟩, ?_⟩
  · have := heap_alloc_new ((w1.alloc (.cells #[.map (some w.heap.size)] 43)).alloc (.cells #[.int .i64 s] 3)) (.cells #[.slice (some ⟨w1.heap.size + 1, 0, none⟩) 1 1] 23)
    rwa [e0] at this
  · refine ⟨rfl, _, 1, rfl, Nat.le_refl _, by simp [maxLen], .inr ⟨_, 0, #[.int .i64 s], rfl, by omega, ?_, by simp, fun j u hj => ?_⟩⟩
    · have := heap_alloc_new (w1.alloc (.cells #[.map (some w.heap.size)] 43)) (.cells #[.int .i64 s] 3)
      rw [e1] at this
      exact alloc_block this _
    · simpa using hj
  · exact ((((((Below.refl _ _).alloc (Nat.le_refl _) _).grown hg (by simp) (fun j hj => by cases hj; omega)).alloc (by omega) _).alloc (by simp; omega) _).alloc (by simp; omega) _)
/-- Between two nodes of reach. -/
structure ReachInv (l : List Edge) (f : List Int) (s : Int) (w wr : World) (sb ob bm : Nat) (d : Nat) (m : Int → Option (Int × Bool)) (ord : List Int) : Prop where
  rs : RS wr w.heap.size sb ob bm m (ord.drop d)
  bfs : BFS l f s m ord
  shut : ∀ u, u ∈ ord.take d → Shut l f u l.length ord
  below : Below w.heap.size w wr
/-- Between two edges of a node u = ord[d]. -/
structure InnerInv (l : List Edge) (f : List Int) (s : Int) (w wr : World) (sb ob bm : Nat) (d : Nat) (u : Int) (j : Nat) (m : Int → Option (Int × Bool)) (ord : List Int) : Prop where
  rs : RS wr w.heap.size sb ob bm m (ord.drop (d + 1))
  bfs : BFS l f s m ord
  shut : ∀ u, u ∈ ord.take d → Shut l f u l.length ord
  here : ord[d]? = some u
  now : Shut l f u j ord
  below : Below w.heap.size w wr

theorem RS.set {w : World} {B sb ob bm : Nat} {m : Int → Option (Int × Bool)} {xs ys : List Int} (h : RS w B sb ob bm m xs) {A : Option Addr} {c : Nat} (ho : OwnS 3 1 w B (.slice A ys.length c) ys.length (ys.map (Value.int .i64))) :
    RS (w.setCell ⟨ob, 0, none⟩ (.slice A ys.length c)) B sb ob bm m ys ∧ Below B w (w.setCell ⟨ob, 0, none⟩ (.slice A ys.length c)) := by
  obtain ⟨v, n, h2, h3, h4⟩ := h.opn
  refine ⟨⟨?_, ⟨.slice A ys.length c, n, ?_, ?_, h4.setCell _ _⟩, h.base⟩, (Below.refl _ _).setCell h.base.2.1 _⟩
  · rw [Below.heap_setCell _ _ _ _ (fun e => ?_)]
    · exact h.seen
    · simp at e
      have := h.seen
      rw [e, h2] at this
      cases this
  · simp [World.setCell, Array.getElem?_modify, h2]
  · refine ho.move fun j hj => ?_
    rw [Below.heap_setCell _ _ _ _ (fun e => ?_)]
    obtain ⟨_, _, cur, hc⟩ := ho.block hj
    simp at e
    rw [e, h2] at hc
    cases hc
structure Mid (l : List Edge) (f : List Int) (s : Int) (w W : World) (sb ob bm : Nat) (d : Nat) (u : Int) (j be : Nat) (m : Int → Option (Int × Bool)) (ord : List Int) : Prop where
  inv : InnerInv l f s w W sb ob bm d u j m ord
  box : W.heap[be]? = some (.cells #[.int .i64 (edAt l j).id, .int .i64 (edAt l j).src, .int .i64 (edAt l j).dst, .int .i64 (edAt l j).cost] 34 (0, 0))
theorem InnerInv.of_below {l : List Edge} {f : List Int} {s : Int} {w W W' : World} {sb ob bm d : Nat} {u : Int} {j : Nat} {m : Int → Option (Int × Bool)} {ord : List Int} (h : InnerInv l f s w W sb ob bm d u j m ord) (hb : Below W.heap.size W W') : InnerInv l f s w W' sb ob bm d u j m ord :=
  ⟨h.rs.below hb, h.bfs, h.shut, h.here, h.now, below_in h.below hb h.below.size⟩
theorem Mid.of_below {l : List Edge} {f : List Int} {s : Int} {w W W' : World} {sb ob bm d : Nat} {u : Int} {j be : Nat} {m : Int → Option (Int × Bool)} {ord : List Int} (h : Mid l f s w W sb ob bm d u j be m ord) (hb : Below W.heap.size W W') : Mid l f s w W' sb ob bm d u j be m ord :=
  ⟨h.inv.of_below hb, Keeps.below hb _ _ _ _ h.box (by decide) (by decide)⟩
theorem InnerInv.mid {l : List Edge} {f : List Int} {s : Int} {w W : World} {sb ob bm d : Nat} {u : Int} {j : Nat} {m : Int → Option (Int × Bool)} {ord : List Int} (h : InnerInv l f s w W sb ob bm d u j m ord) :
    Mid l f s w (W.alloc (.cells #[.int .i64 (edAt l j).id, .int .i64 (edAt l j).src, .int .i64 (edAt l j).dst, .int .i64 (edAt l j).cost] 34)) sb ob bm d u j W.heap.size m ord :=
  ⟨h.of_below (box_below _ _), heap_alloc_new _ _⟩
theorem drop_ox {m : Int → Option (Int × Bool)} {ord : List Int} {d : Nat} (h : d ≤ ord.length) (k : Int) : (ox m ord k).drop d = ox m (ord.drop d) k := by
  unfold ox
  split
  · rfl
  · rw [List.drop_append_of_le_length h]
theorem Mid.visit {l : List Edge} {f : List Int} {s : Int} {w W W2 : World} {sb ob bm d : Nat} {u k : Int} {j be : Nat} {b : Bool} {m : Int → Option (Int × Bool)} {ord : List Int} (h : Mid l f s w W sb ob bm d u j be m ord) (hr : Res l f j b u k)
    (hrs : RS W2 w.heap.size sb ob bm (mx m k ((j : Int), b)) (ox m (ord.drop (d + 1)) k)) (hb : Below w.heap.size W W2) (hk : Keeps W W2) :
    Mid l f s w W2 sb ob bm d u j be (mx m k ((j : Int), b)) (ox m ord k) ∧ k ∈ ox m ord k ∧ ord <+: ox m ord k := by
  have hd : d < ord.length := (List.getElem?_eq_some_iff.1 h.inv.here).1
  obtain ⟨v1, v2, v3⟩ := h.inv.bfs.visit hr (List.mem_of_getElem? h.inv.here)
  refine ⟨⟨⟨by rw [drop_ox (by omega)]; exact hrs, v1, fun x hx => ?_, ?_, h.inv.now.more v3, h.inv.below.trans hb⟩, hk _ _ _ _ h.box (by decide) (by decide)⟩, v2, v3⟩
  · have : (ox m ord k).take d = ord.take d := by
      obtain ⟨r, hr⟩ := v3
      rw [← hr, List.take_append_of_le_length (by omega)]
    rw [this] at hx
    exact (h.inv.shut x hx).more v3
  · obtain ⟨r, hr⟩ := v3
    rw [← hr, List.getElem?_append_left hd]
    exact h.inv.here

theorem InnerInv.next {l : List Edge} {f : List Int} {s : Int} {w W : World} {sb ob bm d : Nat} {u : Int} {j : Nat} {m : Int → Option (Int × Bool)} {ord : List Int} (h : InnerInv l f s w W sb ob bm d u j m ord)
    (h1 : (edAt l j).src = u → numAt f j < (edAt l j).cost → (edAt l j).dst ∈ ord) (h2 : (edAt l j).dst = u → 0 < numAt f j → (edAt l j).src ∈ ord) : InnerInv l f s w W sb ob bm d u (j + 1) m ord :=
  ⟨h.rs, h.bfs, h.shut, h.here, h.now.succ h1 h2, h.below⟩
set_option maxRecDepth 100000 in
set_option maxHeartbeats 2000000 in
/-- flow.reach -/
theorem reach_any (A F : Option Addr) (c dd : Nat) (l : List Edge) (f : List Int) (s : Int) (w : World) (hl : RdE w A l) (hf : RdI w F f) (hlen : f.length = l.length) (h200 : l.length ≤ 200) :
    Calls Try.prog 31 #[.slice A l.length c, .slice F f.length dd, .int .i64 s] w fun e w' => ∃ n m ord, e = .returned (.map (some w.heap.size)) ∧ IMap.IM w' w.heap.size n (fun k => (m k).map stepV) ∧
      BFS l f s m ord ∧ (∀ u, u ∈ ord → Shut l f u l.length ord) ∧ Below w.heap.size w w' := by
  have hm := hl.1
  have HL := Lib.hid hl
  have HF := Lib.hid hf
  have HN := Lib.hid hlen
  clear hl hf hlen
  have hmm := @run_makeMap Try.prog
  go_enter Try.func31, Try.ntmps31
  go_wp2_with (first
    | ((with_reducible refine IMap.gate_insert ?_)
       refine IMap.wp_insert _ rfl _ _ _ 43 rfl 3 46 Try.underlying43 Try.underlying3 w.heap.size 0 _ rfl (IMap.IM.made w) _ (stepV (-1, false)) rfl rfl ?_
       intro w1 hi1 hg1
       have HS := Lib.hid (RS.start s w w1 hi1 hg1)
       clear hi1 hg1 hmm))
  obtain ⟨W, hW⟩ : ∃ W, W = (((w1.alloc (.cells #[.map (some w.heap.size)] 43)).alloc (.cells #[.int .i64 s] 3)).alloc (.cells #[.slice (some ⟨w1.heap.size + 1, 0, none⟩) 1 1] 23)) := ⟨_, rfl⟩
  rw [← hW]
  rw [← hW] at HS
  clear hW
  obtain ⟨ob, hob⟩ : ∃ ob, ob = w1.heap.size + 1 + 1 := ⟨_, rfl⟩
  rw [← hob] at HS ⊢
  clear hob
  obtain ⟨sb, hsb⟩ : ∃ sb, sb = w1.heap.size := ⟨_, rfl⟩
  rw [← hsb] at HS ⊢
  clear hsb
  go_loopg [] (2 * l.length + 2) (fun g wr => ∃ (d : Nat) (m : Int → Option (Int × Bool)) (ord : List Int), g + d = 2 * l.length + 2 ∧ d ≤ ord.length ∧ Hid (ReachInv l f s w wr sb ob w.heap.size d m ord))
  case atStart => exact ⟨0, _, [s], by omega, by simp, ⟨HS.out.1, BFS.start l f s _, by simp, HS.out.2⟩⟩
  case round =>
    clear HS
    obtain ⟨d, m, ord, hg, hd, HI⟩ := hrel
    have hrs := HI.out.rs
    cases hdr : ord.drop d with
    | nil =>
      rw [hdr] at hrs
      obtain ⟨v, n, h2, h3, h4⟩ := hrs.opn
      obtain ⟨A0, c0, rfl, hc1, hc2⟩ := h3.slice
      have q0 := block_cell h2 (j := 0) (v := .slice A0 ([] : List Int).length c0) rfl
      have q1 := block_cell hrs.seen (j := 0) (v := .map (some w.heap.size)) rfl
      have H4 := Lib.hid h4
      have HD := Lib.hid hdr
      clear h2 h3 h4 hrs hdr
      go_wp2
      go_ret
      refine ⟨n, m, ord, rfl, H4.out, HI.out.bfs, fun u hu => ?_, HI.out.below⟩
      have hle : ord.length ≤ d := List.drop_eq_nil_iff.1 HD.out
      exact HI.out.shut u (by rw [List.take_of_length_le hle]; exact hu)
    | cons u rest =>
      rw [hdr] at hrs
      obtain ⟨v, n, h2, h3, h4⟩ := hrs.opn
      obtain ⟨i3, hi3, _, hi3s, _⟩ := info_parts (P := Try.prog) (e := 3) (z := .int .i64 0) (size := 1) (bytes := 8) (by kernel_rfl)
      obtain ⟨v', htl, ho', hbk⟩ := h3.tail (P := Try.prog) Try.underlying23 hi3 hi3s .i64
      obtain ⟨A1, c1, rfl, hc3, hc4⟩ := ho'.slice
      obtain ⟨A0, c0, rfl, hc1, hc2⟩ := h3.slice
      obtain ⟨g, o, rfl, hcell, _⟩ := h3.cell (j := 0) rfl
      have q0 := block_cell h2 (j := 0) (v := .slice (some ⟨g, o, none⟩) (rest.length + 1) c0) rfl
      have q1 := block_frozen h2 0
      rw [Nat.add_zero] at hcell
      have hcut : ∀ W : World, (Instr.slice 23 (.slice (some ⟨g, o, none⟩) (rest.length + 1) c0) (some (.int .i64 1)) none none).run Try.prog W = .ok (.slice A1 rest.length c1) W := htl
      have H2 := Lib.hid h2
      have H4 := Lib.hid h4
      have HO := Lib.hid ho'
      have HRS := Lib.hid hrs
      have HD := Lib.hid hdr
      clear h2 h3 h4 ho' hrs hdr hi3 hi3s hbk htl
      go_wp2
      obtain ⟨hrs1, hbl1⟩ := HRS.out.set HO.out
      have hin : InnerInv l f s w (wr.setCell ⟨ob, 0, none⟩ (.slice A1 rest.length c1)) sb ob w.heap.size d u 0 m ord := by
        have hd1 : ord[d]? = some u ∧ ord.drop (d + 1) = rest := by
          have h0 := congrArg (fun z => z[0]?) HD.out
          have h1 := congrArg List.tail HD.out
          simp at h0 h1
          exact ⟨h0, h1⟩
        exact ⟨by rw [hd1.2]; exact hrs1, HI.out.bfs, HI.out.shut, hd1.1, fun i b k hi => by omega, HI.out.below.trans hbl1⟩
      obtain ⟨W2, hW2⟩ : ∃ W2, W2 = wr.setCell ⟨ob, 0, none⟩ (.slice A1 rest.length c1) := ⟨_, rfl⟩
      rw [← hW2] at hin ⊢
      have HIN := Lib.hid hin
      clear hrs1 hbl1 hin hW2 HRS HO H4 H2 q0 q1 hcut hcell HI HD
      go_loopw [30] (fun i wq => ∃ (j : Nat) (m' : Int → Option (Int × Bool)) (ord' : List Int), j ≤ l.length ∧ i = .int .i64 j ∧ Hid (InnerInv l f s w wq sb ob w.heap.size d u j m' ord')) (fun i _ => l.length - (intOf i).toNat)
      case atStart => exact ⟨0, m, ord, Nat.zero_le _, rfl, HIN.out⟩
      case round =>
        clear HIN
        obtain ⟨j, m', ord', hj, rfl, HI⟩ := hrel
        by_cases hjlt : j < l.length
        · have hff : j < f.length := by have := HN.out; omega
          obtain ⟨a, rfl⟩ := HL.out.addr hjlt
          obtain ⟨b, rfl⟩ := HF.out.addr hff
          obtain ⟨x0, x1, x2, x3⟩ := HL.out.at_ HI.out.below hjlt
          go_wp2
          have HM := Lib.hid HI.out.mid
          obtain ⟨be, hbe⟩ : ∃ be, be = wr.heap.size := ⟨_, rfl⟩
          obtain ⟨V, hV⟩ : ∃ V, V = wr.alloc (.cells #[.int .i64 (edAt l j).id, .int .i64 (edAt l j).src, .int .i64 (edAt l j).dst, .int .i64 (edAt l j).cost] 34) := ⟨_, rfl⟩
          rw [← hV, ← hbe] at HM ⊢
          clear hV hbe x0 x1 x2 x3 HI
          have i2 : ((j : Int) < (f.length : Int)) := by omega
          -- along the edge
          have hone : ((edAt l j).src == u) = false ∨ (((edAt l j).src == u) = true ∧ decide (numAt f j < (edAt l j).cost) = false) ∨ (((edAt l j).src == u) = true ∧ decide (numAt f j < (edAt l j).cost) = true) := by
            cases ((edAt l j).src == u) <;> cases decide (numAt f j < (edAt l j).cost) <;> simp
          have y1 := block_cell HM.out.box (j := 1) (v := .int .i64 (edAt l j).src) rfl
          have y2 := block_cell HM.out.box (j := 2) (v := .int .i64 (edAt l j).dst) rfl
          have y3 := block_cell HM.out.box (j := 3) (v := .int .i64 (edAt l j).cost) rfl
          have z0 := HF.out.at_ HM.out.inv.below hff
          rcases hone with h1 | ⟨h1, h2⟩ | ⟨h1, h2⟩
          · have HA : Hid ((edAt l j).src = u → numAt f j < (edAt l j).cost → (edAt l j).dst ∈ ord') := fun h => by rw [beq_eq_false_iff_ne] at h1; exact absurd h h1
            go_quiet (fail)
            obtain ⟨V1, hV1⟩ : ∃ V1, V1 = V.drewN nq := ⟨_, rfl⟩
            rw [← hV1]
            replace HM := Lib.hid (show Mid l f s w V1 sb ob w.heap.size d u j be m' ord' by rw [hV1]; exact HM.out.of_below (below_drewN (Below.refl _ _) _))
            clear hV1 y1 y2 y3 z0
            have y1 := block_cell HM.out.box (j := 1) (v := .int .i64 (edAt l j).src) rfl
            have y2 := block_cell HM.out.box (j := 2) (v := .int .i64 (edAt l j).dst) rfl
            have y3 := block_cell HM.out.box (j := 3) (v := .int .i64 (edAt l j).cost) rfl
            have z0 := HF.out.at_ HM.out.inv.below hff
            have htwo : ((edAt l j).dst == u) = false ∨ (((edAt l j).dst == u) = true ∧ decide (0 < numAt f j) = false) ∨ (((edAt l j).dst == u) = true ∧ decide (0 < numAt f j) = true) := by
              cases ((edAt l j).dst == u) <;> cases decide (0 < numAt f j) <;> simp
            rcases htwo with h3 | ⟨h3, h4⟩ | ⟨h3, h4⟩
            · have HE := Lib.hid (HM.out.inv.next HA.out (fun h => by rw [beq_eq_false_iff_ne] at h3; exact absurd h h3))
              go_wp2
              go_roundw
              case rel => exact ⟨j + 1, _, _, by omega, by go_num, HE.out⟩
              case measure => simp [intOf]; omega
            · have HE := Lib.hid (HM.out.inv.next HA.out (fun _ h => by rw [decide_eq_false_iff_not] at h4; exact absurd h h4))
              go_wp2
              go_roundw
              case rel => exact ⟨j + 1, _, _, by omega, by go_num, HE.out⟩
              case measure => simp [intOf]; omega
            · go_wp2_with fail
              refine (visit_any _ (((j : Nat) : Int), true) _ HM.out.inv.rs (by have := HM.out.inv.bfs.length; simp; omega) HM.out.inv.below.size).mono ?_
              rintro e V2 ⟨rfl, hrs2, hb2, hk2⟩
              obtain ⟨hm2, hin2, hpre2⟩ := HM.out.visit (b := true) (u := u) (k := (edAt l j).src) ⟨hjlt, by simp; exact ⟨by simpa using h3, by simpa using h4⟩⟩ hrs2 hb2 hk2
              have HE := Lib.hid (hm2.inv.next (fun a b => hpre2.subset (HA.out a b)) (fun _ _ => hin2))
              clear hm2 hin2 hpre2 hrs2 hb2 hk2
              go_wp2
              go_roundw
              case rel => exact ⟨j + 1, _, _, by omega, by go_num, HE.out⟩
              case measure => simp [intOf]; omega
          · have HA : Hid ((edAt l j).src = u → numAt f j < (edAt l j).cost → (edAt l j).dst ∈ ord') := fun _ h => by rw [decide_eq_false_iff_not] at h2; exact absurd h h2
            go_quiet (fail)
            obtain ⟨V1, hV1⟩ : ∃ V1, V1 = V.drewN nq := ⟨_, rfl⟩
            rw [← hV1]
            replace HM := Lib.hid (show Mid l f s w V1 sb ob w.heap.size d u j be m' ord' by rw [hV1]; exact HM.out.of_below (below_drewN (Below.refl _ _) _))
            clear hV1 y1 y2 y3 z0
            have y1 := block_cell HM.out.box (j := 1) (v := .int .i64 (edAt l j).src) rfl
            have y2 := block_cell HM.out.box (j := 2) (v := .int .i64 (edAt l j).dst) rfl
            have y3 := block_cell HM.out.box (j := 3) (v := .int .i64 (edAt l j).cost) rfl
            have z0 := HF.out.at_ HM.out.inv.below hff
            have htwo : ((edAt l j).dst == u) = false ∨ (((edAt l j).dst == u) = true ∧ decide (0 < numAt f j) = false) ∨ (((edAt l j).dst == u) = true ∧ decide (0 < numAt f j) = true) := by
              cases ((edAt l j).dst == u) <;> cases decide (0 < numAt f j) <;> simp
            rcases htwo with h3 | ⟨h3, h4⟩ | ⟨h3, h4⟩
            · have HE := Lib.hid (HM.out.inv.next HA.out (fun h => by rw [beq_eq_false_iff_ne] at h3; exact absurd h h3))
              go_wp2
              go_roundw
              case rel => exact ⟨j + 1, _, _, by omega, by go_num, HE.out⟩
              case measure => simp [intOf]; omega
            · have HE := Lib.hid (HM.out.inv.next HA.out (fun _ h => by rw [decide_eq_false_iff_not] at h4; exact absurd h h4))
              go_wp2
              go_roundw
              case rel => exact ⟨j + 1, _, _, by omega, by go_num, HE.out⟩
              case measure => simp [intOf]; omega
            · go_wp2_with fail
              refine (visit_any _ (((j : Nat) : Int), true) _ HM.out.inv.rs (by have := HM.out.inv.bfs.length; simp; omega) HM.out.inv.below.size).mono ?_
              rintro e V2 ⟨rfl, hrs2, hb2, hk2⟩
              obtain ⟨hm2, hin2, hpre2⟩ := HM.out.visit (b := true) (u := u) (k := (edAt l j).src) ⟨hjlt, by simp; exact ⟨by simpa using h3, by simpa using h4⟩⟩ hrs2 hb2 hk2
              have HE := Lib.hid (hm2.inv.next (fun a b => hpre2.subset (HA.out a b)) (fun _ _ => hin2))
              clear hm2 hin2 hpre2 hrs2 hb2 hk2
              go_wp2
              go_roundw
              case rel => exact ⟨j + 1, _, _, by omega, by go_num, HE.out⟩
              case measure => simp [intOf]; omega
          · go_quiet (fail)
            obtain ⟨V1, hV1⟩ : ∃ V1, V1 = V.drewN nq := ⟨_, rfl⟩
            rw [← hV1]
            replace HM := Lib.hid (show Mid l f s w V1 sb ob w.heap.size d u j be m' ord' by rw [hV1]; exact HM.out.of_below (below_drewN (Below.refl _ _) _))
            clear hV1 y1 y2 y3 z0
            have y1 := block_cell HM.out.box (j := 1) (v := .int .i64 (edAt l j).src) rfl
            have y2 := block_cell HM.out.box (j := 2) (v := .int .i64 (edAt l j).dst) rfl
            have y3 := block_cell HM.out.box (j := 3) (v := .int .i64 (edAt l j).cost) rfl
            have z0 := HF.out.at_ HM.out.inv.below hff
            go_wp2_with fail
            refine (visit_any _ (((j : Nat) : Int), false) _ HM.out.inv.rs (by have := HM.out.inv.bfs.length; simp; omega) HM.out.inv.below.size).mono ?_
            rintro e V2 ⟨rfl, hrs2, hb2, hk2⟩
            obtain ⟨hm2, hin2, hpre2⟩ := HM.out.visit (b := false) (u := u) (k := (edAt l j).dst) ⟨hjlt, by simp; exact ⟨by simpa using h1, by simpa using h2⟩⟩ hrs2 hb2 hk2
            replace HM := Lib.hid hm2
            have HA : Hid ((edAt l j).src = u → numAt f j < (edAt l j).cost → _) := fun _ _ => hin2
            clear hm2 hin2 hpre2 hrs2 hb2 hk2 y1 y2 y3 z0
            have y1 := block_cell HM.out.box (j := 1) (v := .int .i64 (edAt l j).src) rfl
            have y2 := block_cell HM.out.box (j := 2) (v := .int .i64 (edAt l j).dst) rfl
            have y3 := block_cell HM.out.box (j := 3) (v := .int .i64 (edAt l j).cost) rfl
            have z0 := HF.out.at_ HM.out.inv.below hff
            have htwo : ((edAt l j).dst == u) = false ∨ (((edAt l j).dst == u) = true ∧ decide (0 < numAt f j) = false) ∨ (((edAt l j).dst == u) = true ∧ decide (0 < numAt f j) = true) := by
              cases ((edAt l j).dst == u) <;> cases decide (0 < numAt f j) <;> simp
            rcases htwo with h3 | ⟨h3, h4⟩ | ⟨h3, h4⟩
            · have HE := Lib.hid (HM.out.inv.next HA.out (fun h => by rw [beq_eq_false_iff_ne] at h3; exact absurd h h3))
              go_wp2
              go_roundw
              case rel => exact ⟨j + 1, _, _, by omega, by go_num, HE.out⟩
              case measure => simp [intOf]; omega
            · have HE := Lib.hid (HM.out.inv.next HA.out (fun _ h => by rw [decide_eq_false_iff_not] at h4; exact absurd h h4))
              go_wp2
              go_roundw
              case rel => exact ⟨j + 1, _, _, by omega, by go_num, HE.out⟩
              case measure => simp [intOf]; omega
            · go_wp2_with fail
              refine (visit_any _ (((j : Nat) : Int), true) _ HM.out.inv.rs (by have := HM.out.inv.bfs.length; simp; omega) HM.out.inv.below.size).mono ?_
              rintro e V2 ⟨rfl, hrs2, hb2, hk2⟩
              obtain ⟨hm2, hin2, hpre2⟩ := HM.out.visit (b := true) (u := u) (k := (edAt l j).src) ⟨hjlt, by simp; exact ⟨by simpa using h3, by simpa using h4⟩⟩ hrs2 hb2 hk2
              have HE := Lib.hid (hm2.inv.next (fun a b => hpre2.subset (HA.out a b)) (fun _ _ => hin2))
              clear hm2 hin2 hpre2 hrs2 hb2 hk2
              go_wp2
              go_roundw
              case rel => exact ⟨j + 1, _, _, by omega, by go_num, HE.out⟩
              case measure => simp [intOf]; omega
        · cases gk with
          | zero =>
            have := HI.out.bfs.length
            have := (List.getElem?_eq_some_iff.1 HI.out.here).1
            omega
          | succ g1 =>
            go_wp2
            go_roundg g1
            case measure => omega
            case rel =>
              have hlt := (List.getElem?_eq_some_iff.1 HI.out.here).1
              refine ⟨d + 1, m', ord', by omega, hlt, ⟨HI.out.rs, HI.out.bfs, fun x hx => ?_, HI.out.below⟩⟩
              rw [List.take_add_one, HI.out.here] at hx
              rcases List.mem_append.1 hx with hx | hx
              · exact HI.out.shut x hx
              · simp at hx
                subst hx
                have : j = l.length := by omega
                subst this
                exact HI.out.now
end Go.Proofs.Ytambnjhopijkfaa

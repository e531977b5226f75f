/- Proved here: the walk of the reference function search. Conditions: the slices read as edges and as numbers of one length, at most 200. -/
import Derived.Test.YtambnjhopijkfaaRSearch
namespace Go.Proofs.Ytambnjhopijkfaa
open Go.RowKit
set_option maxRecDepth 100000 in
set_option maxHeartbeats 8000000 in
/-- ref06.search -/
theorem search_any (A F : Option Addr) (c dd : Nat) (l : List Edge) (f : List Int) (s : Int) (w : World) (hl : RdE w A l) (hf : RdI w F f) (hlen : f.length = l.length) (h200 : l.length ≤ 200) :
    Calls Try.prog 34 #[.slice A l.length c, .slice F f.length dd, .int .i64 s] w fun e w' => ∃ v1 v2 m ord, e = .returned (.tuple #[v1, v2]) ∧ SI l f s w w' v1 v2 m ord ∧ (∀ u, u ∈ ord → Shut l f u l.length ord) := by
  have hm := hl.1
  have HL := Lib.hid hl
  have HF := Lib.hid hf
  have HN := Lib.hid hlen
  clear hl hf hlen
  go_enter Try.func34, Try.ntmps34
  go_wp2_with fail
  have HS : Hid (SI l f s w ((w.alloc (.cells #[.int .i64 s] 3)).alloc (.cells #[.int .i64 0] 3)) (.slice (some ⟨w.heap.size, 0, none⟩) 1 1) (.slice (some ⟨w.heap.size + 1, 0, none⟩) 1 1) (updS (fun _ => none) s (-1, false)) [s]) := by
    have e1 : (w.alloc (.cells #[.int .i64 s] 3)).heap.size = w.heap.size + 1 := by simp
    refine ⟨BFS.start l f s _, ⟨by simp, _, 1, rfl, Nat.le_refl _, by simp only [maxLen]; omega, .inr ⟨w.heap.size, 0, #[.int .i64 s], rfl, Nat.le_refl _, alloc_block (heap_alloc_new _ _) _, by simp, fun j u hj => by simpa using hj⟩⟩,
      ⟨by simp, _, 1, rfl, Nat.le_refl _, by simp only [maxLen]; omega, .inr ⟨w.heap.size + 1, 0, #[.int .i64 0], rfl, by omega, ?_, by simp, fun j u hj => by simpa [viaM] using hj⟩⟩, fun k hk e => ?_, ((Below.refl _ _).alloc (Nat.le_refl _) _).alloc (by simp) _⟩
    · have := heap_alloc_new (w.alloc (.cells #[.int .i64 s] 3)) (.cells #[.int .i64 0] 3)
      rwa [e1] at this
    · simp [Value.ownBlock] at hk e
      omega
  obtain ⟨W, hW⟩ : ∃ W, W = ((w.alloc (.cells #[.int .i64 s] 3)).alloc (.cells #[.int .i64 0] 3)) := ⟨_, rfl⟩
  rw [← hW] at HS ⊢
  clear hW
  go_loopg [8, 9, 10] (2 * l.length + 2) (fun g v1 v2 iv wr => ∃ (i : Nat) (m : Int → Option (Int × Bool)) (ord : List Int), g + i = 2 * l.length + 2 ∧ i ≤ ord.length ∧ iv = .int .i64 (i : Int) ∧ Hid (SI l f s w wr v1 v2 m ord) ∧ Hid (∀ x, x ∈ ord.take i → Shut l f x l.length ord))
  case atStart => exact ⟨0, _, [s], by omega, by simp, rfl, HS.out, by intro x hx; simp at hx⟩
  case round =>
    clear HS
    obtain ⟨i, m, ord, hg, hi, rfl, HI, HSH⟩ := hrel
    obtain ⟨A1, c1, rfl, hc1, hc2⟩ := HI.out.o1.slice
    obtain ⟨A2, c2, rfl, hc3, hc4⟩ := HI.out.o2.slice
    have hol := HI.out.bfs.length
    by_cases hlt : i < ord.length
    · have i1 : ((i : Int) < (ord.length : Int)) := by omega
      obtain ⟨u, hu⟩ : ∃ u, u = numAt ord i := ⟨_, rfl⟩
      have HJ : Hid (SJ l f s w wr (.slice A1 ord.length c1) (.slice A2 ord.length c2) i u 0 m ord) := ⟨HI.out, by rw [hu]; exact numAt_eq hlt, HSH.out, fun i b k hi => by omega⟩
      clear HI HSH hu
      go_wp2_with fail
      go_loopw [8, 9, 11] (fun x1 x2 kv wq => ∃ (k : Nat) (m' : Int → Option (Int × Bool)) (ord' : List Int), k ≤ l.length ∧ kv = .int .i64 (k : Int) ∧ Hid (SJ l f s w wq x1 x2 i u k m' ord')) (fun _ _ kv _ => l.length - (intOf kv).toNat)
      case atStart => exact ⟨0, m, ord, Nat.zero_le _, rfl, HJ.out⟩
      case round =>
        clear HJ hlt i1 hol hi hc1 hc2 hc3 hc4
        obtain ⟨k, m, ord, hk, rfl, HJ⟩ := hrel
        obtain ⟨A1, c1, rfl, hc1, hc2⟩ := HJ.out.si.o1.slice
        obtain ⟨A2, c2, rfl, hc3, hc4⟩ := HJ.out.si.o2.slice
        have hol := HJ.out.si.bfs.length
        have hil : i < ord.length := (List.getElem?_eq_some_iff.1 HJ.out.here).1
        by_cases hklt : k < l.length
        · have i2 : ((k : Int) < (l.length : Int)) := by omega
          have hkf : k < f.length := by have := HN.out; omega
          have i3 : ((k : Int) < (f.length : Int)) := by omega
          have i4 : ((i : Int) < (ord.length : Int)) := by omega
          obtain ⟨a, rfl⟩ := HL.out.addr hklt
          obtain ⟨b, rfl⟩ := HF.out.addr hkf
          obtain ⟨a1, rfl⟩ := HJ.out.si.o1.rdI.addr hil
          obtain ⟨x0, x1, x2, x3⟩ := HL.out.at_ HJ.out.si.below hklt
          have z0 := HF.out.at_ HJ.out.si.below hkf
          have y0 := HJ.out.si.o1.rdI.at_ (Below.refl _ _) hil
          have hnu : numAt ord i = u := by
            have := HJ.out.here
            rw [numAt_eq hil] at this
            exact Option.some.inj this
          rw [hnu] at y0
          have HHAS : Hid (∀ n x, Calls Try.prog 35 #[.slice (some a1) ord.length c1, .int .i64 x] (wr.drewN n) fun e w' => e = .returned (.bool (decide (x ∈ ord))) ∧ w' = wr.drewN n) :=
            fun n x => (has_any (some a1) c1 ord x (wr.drewN n) (HJ.out.si.o1.drewN n).rdI).mono fun e w' ⟨h1, h2⟩ => ⟨h1, h2.symm⟩
          clear hnu
          have hone : ((edAt l k).src == u) = false ∨ (((edAt l k).src == u) = true ∧ decide (numAt f k < (edAt l k).cost) = false) ∨ (((edAt l k).src == u) = true ∧ decide (numAt f k < (edAt l k).cost) = true ∧ decide ((edAt l k).dst ∈ ord) = true) ∨ (((edAt l k).src == u) = true ∧ decide (numAt f k < (edAt l k).cost) = true ∧ decide ((edAt l k).dst ∈ ord) = false) := by
            cases ((edAt l k).src == u) <;> cases decide (numAt f k < (edAt l k).cost) <;> cases decide ((edAt l k).dst ∈ ord) <;> simp
          go_wp2_with fail
          rcases hone with h1 | ⟨h1, h2⟩ | ⟨h1, h2, h3⟩ | ⟨h1, h2, h3⟩
          case' inl =>
            go_quiet (fail)
            have HA : Hid ((edAt l k).src = u → numAt f k < (edAt l k).cost → (edAt l k).dst ∈ ord) := fun h => by rw [beq_eq_false_iff_ne] at h1; exact absurd h h1
            clear h1
            obtain ⟨WX, hV1⟩ : ∃ V, V = wr.drewN nq := ⟨_, rfl⟩
            rw [← hV1]
            have HJ1 : Hid (SJ l f s w WX (.slice (some a1) ord.length c1) (.slice A2 ord.length c2) i u k m ord) := by rw [hV1]; exact HJ.out.drewN _
            clear hV1 x0 x1 x2 x3 z0 y0 HHAS HJ
            go_wp2_with fail
            obtain ⟨BX, hB1⟩ : ∃ B, B = some a1 := ⟨_, rfl⟩
            obtain ⟨ordx, ho⟩ : ∃ o, o = ord := ⟨_, rfl⟩
            obtain ⟨mx_, hmx⟩ : ∃ o, o = m := ⟨_, rfl⟩
            obtain ⟨AX, hAX⟩ : ∃ o, o = A2 := ⟨_, rfl⟩
            obtain ⟨cx, hcx⟩ : ∃ o, o = c1 := ⟨_, rfl⟩
            obtain ⟨dx, hdx⟩ : ∃ o, o = c2 := ⟨_, rfl⟩
            rw [← hB1, ← ho, ← hAX, ← hcx, ← hdx] at HJ1 ⊢
            rw [← hmx] at HJ1
            rw [← ho] at HA
            clear hB1 ho hmx hAX hcx hdx hc1 hc2 hc3 hc4 hol hil i4
          case' inr.inl =>
            go_quiet (fail)
            have HA : Hid ((edAt l k).src = u → numAt f k < (edAt l k).cost → (edAt l k).dst ∈ ord) := fun _ h => by rw [decide_eq_false_iff_not] at h2; exact absurd h h2
            clear h1 h2
            obtain ⟨WX, hV1⟩ : ∃ V, V = wr.drewN nq := ⟨_, rfl⟩
            rw [← hV1]
            have HJ1 : Hid (SJ l f s w WX (.slice (some a1) ord.length c1) (.slice A2 ord.length c2) i u k m ord) := by rw [hV1]; exact HJ.out.drewN _
            clear hV1 x0 x1 x2 x3 z0 y0 HHAS HJ
            go_wp2_with fail
            obtain ⟨BX, hB1⟩ : ∃ B, B = some a1 := ⟨_, rfl⟩
            obtain ⟨ordx, ho⟩ : ∃ o, o = ord := ⟨_, rfl⟩
            obtain ⟨mx_, hmx⟩ : ∃ o, o = m := ⟨_, rfl⟩
            obtain ⟨AX, hAX⟩ : ∃ o, o = A2 := ⟨_, rfl⟩
            obtain ⟨cx, hcx⟩ : ∃ o, o = c1 := ⟨_, rfl⟩
            obtain ⟨dx, hdx⟩ : ∃ o, o = c2 := ⟨_, rfl⟩
            rw [← hB1, ← ho, ← hAX, ← hcx, ← hdx] at HJ1 ⊢
            rw [← hmx] at HJ1
            rw [← ho] at HA
            clear hB1 ho hmx hAX hcx hdx hc1 hc2 hc3 hc4 hol hil i4
          case' inr.inr.inl =>
            have HH : Hid (∀ n, Calls Try.prog 35 #[.slice (some a1) ord.length c1, .int .i64 (edAt l k).dst] (wr.drewN n) fun e w' => e = .returned (.bool true) ∧ w' = wr.drewN n) := fun n => by rw [← h3]; exact HHAS.out n _
            go_quiet ((go_at_call 35; refine Calls.quiet_of_same (HH.out _)))
            have HA : Hid ((edAt l k).src = u → numAt f k < (edAt l k).cost → (edAt l k).dst ∈ ord) := fun _ _ => by simpa using h3
            clear HH h1 h2 h3
            obtain ⟨WX, hV1⟩ : ∃ V, V = wr.drewN nq := ⟨_, rfl⟩
            rw [← hV1]
            have HJ1 : Hid (SJ l f s w WX (.slice (some a1) ord.length c1) (.slice A2 ord.length c2) i u k m ord) := by rw [hV1]; exact HJ.out.drewN _
            clear hV1 x0 x1 x2 x3 z0 y0 HHAS HJ
            go_wp2_with fail
            obtain ⟨BX, hB1⟩ : ∃ B, B = some a1 := ⟨_, rfl⟩
            obtain ⟨ordx, ho⟩ : ∃ o, o = ord := ⟨_, rfl⟩
            obtain ⟨mx_, hmx⟩ : ∃ o, o = m := ⟨_, rfl⟩
            obtain ⟨AX, hAX⟩ : ∃ o, o = A2 := ⟨_, rfl⟩
            obtain ⟨cx, hcx⟩ : ∃ o, o = c1 := ⟨_, rfl⟩
            obtain ⟨dx, hdx⟩ : ∃ o, o = c2 := ⟨_, rfl⟩
            rw [← hB1, ← ho, ← hAX, ← hcx, ← hdx] at HJ1 ⊢
            rw [← hmx] at HJ1
            rw [← ho] at HA
            clear hB1 ho hmx hAX hcx hdx hc1 hc2 hc3 hc4 hol hil i4
          case' inr.inr.inr =>
            have HH : Hid (∀ n, Calls Try.prog 35 #[.slice (some a1) ord.length c1, .int .i64 (edAt l k).dst] (wr.drewN n) fun e w' => e = .returned (.bool false) ∧ w' = wr.drewN n) := fun n => by rw [← h3]; exact HHAS.out n _
            go_quiet ((go_at_call 35; refine Calls.quiet_of_same (HH.out _)))
            clear HH
            obtain ⟨V1, hV1⟩ : ∃ V1, V1 = wr.drewN nq := ⟨_, rfl⟩
            rw [← hV1]
            have HJ0 : Hid (SJ l f s w V1 (.slice (some a1) ord.length c1) (.slice A2 ord.length c2) i u k m ord) := by rw [hV1]; exact HJ.out.drewN _
            clear hV1 x0 x1 x2 x3 z0 y0 HHAS HJ
            obtain ⟨x0, x1, x2, x3⟩ := HL.out.at_ HJ0.out.si.below hklt
            have HZ := Lib.hid HJ0.out.si.below.size
            go_wp2_with (at_builtin; refine OwnS.wp_append rfl _ _ 23 rfl 3 (.int .i64 0) 1 8 Try.underlying23 (by kernel_rfl) rfl (by omega) (by omega) w.heap.size ord.length _ (ord.map (Value.int .i64)) rfl (HJ0.out.si.o1.alloc _) ⟨_, 0, none⟩ 1 [.int .i64 (edAt l k).dst] rfl rfl (box_cells _ #[.int .i64 (edAt l k).dst] 3 _ (by simp)) (by simp [Value.oneCell']) (by omega) (by have := HZ.out; simp; omega) ?_)
            intro v1' w1 ho1 hg1 hor1
            have HZ1 := Lib.hid (show w.heap.size ≤ w1.heap.size by have := HZ.out; have := hg1.size; simp at this; omega)
            have hmid := HJ0.out.si.mid2 hg1
            clear x0 x1 x2 x3
            go_wp2_with (at_builtin; refine OwnS.wp_append rfl _ _ 23 rfl 3 (.int .i64 0) 1 8 Try.underlying23 (by kernel_rfl) rfl (by omega) (by omega) w.heap.size ord.length _ ((ord.map (viaM s m)).map (Value.int .i64)) rfl (hmid.alloc _) ⟨_, 0, none⟩ 1 [.int .i64 (encV ((k : Int), false))] rfl rfl (box_cells _ #[.int .i64 ((k : Int) + 1)] 3 _ (by simp)) (by simp [Value.oneCell']) (by omega) (by have := HZ1.out; simp; omega) ?_)
            intro v2' W2 ho2 hg2 hor2
            rw [← List.map_map] at ho2
            have hres : Res l f k false u (edAt l k).dst := ⟨hklt, by simpa using ⟨by simpa using h1, by simpa using h2⟩⟩
            have hsi := HJ0.out.si.hit (by simpa using h3) hres (List.mem_of_getElem? HJ0.out.here) ho1 hg1 hor1 ho2 hg2 hor2
            obtain ⟨B1, c3, rfl, _, _⟩ := ho1.slice
            obtain ⟨A4, c4, rfl, _, _⟩ := ho2.slice
            have hj1 := HJ0.out.more hsi
            have e1 : ord.length + 1 = (ord ++ [(edAt l k).dst]).length := by simp
            rw [e1] at hj1 ⊢
            have HJ1 := Lib.hid hj1
            clear e1 hj1 hsi hres ho1 ho2 hg1 hg2 hor1 hor2 hmid HJ0 HZ HZ1
            go_wp2_with fail
            have HA : Hid ((edAt l k).src = u → numAt f k < (edAt l k).cost → (edAt l k).dst ∈ ord ++ [(edAt l k).dst]) := fun _ _ => by simp
            obtain ⟨BX, hB1⟩ : ∃ B, B = B1 := ⟨_, rfl⟩
            obtain ⟨ordx, ho⟩ : ∃ o, o = ord ++ [(edAt l k).dst] := ⟨_, rfl⟩
            obtain ⟨mx_, hmx⟩ : ∃ o, o = updS m (edAt l k).dst ((k : Int), false) := ⟨_, rfl⟩
            obtain ⟨AX, hAX⟩ : ∃ o, o = A4 := ⟨_, rfl⟩
            obtain ⟨cx, hcx⟩ : ∃ o, o = c3 := ⟨_, rfl⟩
            obtain ⟨dx, hdx⟩ : ∃ o, o = c4 := ⟨_, rfl⟩
            obtain ⟨WX, hWX⟩ : ∃ W, W = W2 := ⟨_, rfl⟩
            rw [← ho, ← hWX, ← hB1, ← hAX, ← hcx, ← hdx] at HJ1 ⊢
            rw [← hmx] at HJ1
            rw [← ho] at HA
            clear hB1 ho hmx hAX hcx hdx hWX hc1 hc2 hc3 hc4 hol hil i4
            clear h1 h2 h3
          all_goals
            have hil : i < ordx.length := (List.getElem?_eq_some_iff.1 HJ1.out.here).1
            have i4 : ((i : Int) < (ordx.length : Int)) := by omega
            have hol := HJ1.out.si.bfs.length
            obtain ⟨a1, rfl⟩ := HJ1.out.si.o1.rdI.addr hil
            obtain ⟨x0, x1, x2, x3⟩ := HL.out.at_ HJ1.out.si.below hklt
            have z0 := HF.out.at_ HJ1.out.si.below hkf
            have y0 := HJ1.out.si.o1.rdI.at_ (Below.refl _ _) hil
            have hnu : numAt ordx i = u := by
              have := HJ1.out.here
              rw [numAt_eq hil] at this
              exact Option.some.inj this
            rw [hnu] at y0
            have HHAS : Hid (∀ n x, Calls Try.prog 35 #[.slice (some a1) ordx.length cx, .int .i64 x] (WX.drewN n) fun e w' => e = .returned (.bool (decide (x ∈ ordx))) ∧ w' = WX.drewN n) :=
              fun n x => (has_any (some a1) cx ordx x (WX.drewN n) (HJ1.out.si.o1.drewN n).rdI).mono fun e w' ⟨h1, h2⟩ => ⟨h1, h2.symm⟩
            clear hnu
            have htwo : ((edAt l k).dst == u) = false ∨ (((edAt l k).dst == u) = true ∧ decide (0 < numAt f k) = false) ∨ (((edAt l k).dst == u) = true ∧ decide (0 < numAt f k) = true ∧ decide ((edAt l k).src ∈ ordx) = true) ∨ (((edAt l k).dst == u) = true ∧ decide (0 < numAt f k) = true ∧ decide ((edAt l k).src ∈ ordx) = false) := by
              cases ((edAt l k).dst == u) <;> cases decide (0 < numAt f k) <;> cases decide ((edAt l k).src ∈ ordx) <;> simp
            rcases htwo with h1 | ⟨h1, h2⟩ | ⟨h1, h2, h3⟩ | ⟨h1, h2, h3⟩
            · go_quiet (fail)
              have HB : Hid ((edAt l k).dst = u → 0 < numAt f k → (edAt l k).src ∈ ordx) := fun h => by rw [beq_eq_false_iff_ne] at h1; exact absurd h h1
              clear h1
              obtain ⟨V, hV⟩ : ∃ V, V = WX.drewN nq := ⟨_, rfl⟩
              rw [← hV]
              have HJ2 : Hid (SJ l f s w V (.slice (some a1) ordx.length cx) (.slice AX ordx.length dx) i u k mx_ ordx) := by rw [hV]; exact HJ1.out.drewN _
              clear hV x0 x1 x2 x3 z0 y0 HHAS HJ1
              go_wp2_with fail
              go_roundw
              case rel => exact ⟨k + 1, mx_, ordx, by omega, by go_num, HJ2.out.next HA.out HB.out⟩
              case measure => simp [intOf]; omega
            · go_quiet (fail)
              have HB : Hid ((edAt l k).dst = u → 0 < numAt f k → (edAt l k).src ∈ ordx) := fun _ h => by rw [decide_eq_false_iff_not] at h2; exact absurd h h2
              clear h1 h2
              obtain ⟨V, hV⟩ : ∃ V, V = WX.drewN nq := ⟨_, rfl⟩
              rw [← hV]
              have HJ2 : Hid (SJ l f s w V (.slice (some a1) ordx.length cx) (.slice AX ordx.length dx) i u k mx_ ordx) := by rw [hV]; exact HJ1.out.drewN _
              clear hV x0 x1 x2 x3 z0 y0 HHAS HJ1
              go_wp2_with fail
              go_roundw
              case rel => exact ⟨k + 1, mx_, ordx, by omega, by go_num, HJ2.out.next HA.out HB.out⟩
              case measure => simp [intOf]; omega
            · have HH : Hid (∀ n, Calls Try.prog 35 #[.slice (some a1) ordx.length cx, .int .i64 (edAt l k).src] (WX.drewN n) fun e w' => e = .returned (.bool true) ∧ w' = WX.drewN n) := fun n => by rw [← h3]; exact HHAS.out n _
              go_quiet ((go_at_call 35; refine Calls.quiet_of_same (HH.out _)))
              have HB : Hid ((edAt l k).dst = u → 0 < numAt f k → (edAt l k).src ∈ ordx) := fun _ _ => by simpa using h3
              clear HH h1 h2 h3
              obtain ⟨V, hV⟩ : ∃ V, V = WX.drewN nq := ⟨_, rfl⟩
              rw [← hV]
              have HJ2 : Hid (SJ l f s w V (.slice (some a1) ordx.length cx) (.slice AX ordx.length dx) i u k mx_ ordx) := by rw [hV]; exact HJ1.out.drewN _
              clear hV x0 x1 x2 x3 z0 y0 HHAS HJ1
              go_wp2_with fail
              go_roundw
              case rel => exact ⟨k + 1, mx_, ordx, by omega, by go_num, HJ2.out.next HA.out HB.out⟩
              case measure => simp [intOf]; omega
            · have HH : Hid (∀ n, Calls Try.prog 35 #[.slice (some a1) ordx.length cx, .int .i64 (edAt l k).src] (WX.drewN n) fun e w' => e = .returned (.bool false) ∧ w' = WX.drewN n) := fun n => by rw [← h3]; exact HHAS.out n _
              go_quiet ((go_at_call 35; refine Calls.quiet_of_same (HH.out _)))
              clear HH
              obtain ⟨V1, hV1⟩ : ∃ V1, V1 = WX.drewN nq := ⟨_, rfl⟩
              rw [← hV1]
              have HJ0 : Hid (SJ l f s w V1 (.slice (some a1) ordx.length cx) (.slice AX ordx.length dx) i u k mx_ ordx) := by rw [hV1]; exact HJ1.out.drewN _
              clear hV1 x0 x1 x2 x3 z0 y0 HHAS HJ1
              obtain ⟨x0, x1, x2, x3⟩ := HL.out.at_ HJ0.out.si.below hklt
              have HZ := Lib.hid HJ0.out.si.below.size
              go_wp2_with (at_builtin; refine OwnS.wp_append rfl _ _ 23 rfl 3 (.int .i64 0) 1 8 Try.underlying23 (by kernel_rfl) rfl (by omega) (by omega) w.heap.size ordx.length _ (ordx.map (Value.int .i64)) rfl (HJ0.out.si.o1.alloc _) ⟨_, 0, none⟩ 1 [.int .i64 (edAt l k).src] rfl rfl (box_cells _ #[.int .i64 (edAt l k).src] 3 _ (by simp)) (by simp [Value.oneCell']) (by omega) (by have := HZ.out; simp; omega) ?_)
              intro v1' w1 ho1 hg1 hor1
              have HZ1 := Lib.hid (show w.heap.size ≤ w1.heap.size by have := HZ.out; have := hg1.size; simp at this; omega)
              have hmid := HJ0.out.si.mid2 hg1
              clear x0 x1 x2 x3
              go_wp2_with (at_builtin; refine OwnS.wp_append rfl _ _ 23 rfl 3 (.int .i64 0) 1 8 Try.underlying23 (by kernel_rfl) rfl (by omega) (by omega) w.heap.size ordx.length _ ((ordx.map (viaM s mx_)).map (Value.int .i64)) rfl (hmid.alloc _) ⟨_, 0, none⟩ 1 [.int .i64 (encV ((k : Int), true))] rfl rfl (box_cells _ #[.int .i64 (-(k : Int) - 1)] 3 _ (by simp)) (by simp [Value.oneCell']) (by omega) (by have := HZ1.out; simp; omega) ?_)
              intro v2' W2 ho2 hg2 hor2
              rw [← List.map_map] at ho2
              have hres : Res l f k true u (edAt l k).src := ⟨hklt, by simpa using ⟨by simpa using h1, by simpa using h2⟩⟩
              have hsi := HJ0.out.si.hit (by simpa using h3) hres (List.mem_of_getElem? HJ0.out.here) ho1 hg1 hor1 ho2 hg2 hor2
              obtain ⟨B1, c3, rfl, _, _⟩ := ho1.slice
              obtain ⟨A4, c4, rfl, _, _⟩ := ho2.slice
              have hj1 := HJ0.out.more hsi
              have e1 : ordx.length + 1 = (ordx ++ [(edAt l k).src]).length := by simp
              rw [e1] at hj1 ⊢
              have HJ2 := Lib.hid hj1
              clear e1 hj1 hsi hres ho1 ho2 hg1 hg2 hor1 hor2 hmid HJ0 HZ HZ1
              go_wp2_with fail
              go_roundw
              case rel => exact ⟨k + 1, _, _, by omega, by go_num, HJ2.out.next (fun h h' => List.mem_append_left _ (HA.out h h')) (fun _ _ => by simp)⟩
              case measure => simp [intOf]; omega
        · have hkl : k = l.length := by omega
          subst hkl
          have i2 : ¬ ((l.length : Int) < (l.length : Int)) := by omega
          go_wp2_with fail
          cases gk with
          | zero => omega
          | succ g1 =>
            go_roundg g1
            case measure => omega
            case rel => exact ⟨i + 1, m, ord, by omega, by omega, by go_num, HJ.out.si, fun x hx => by
              rw [List.take_add_one, HJ.out.here] at hx
              rcases List.mem_append.1 hx with h | h
              · exact HJ.out.shut x h
              · simp at h; subst h; exact HJ.out.now⟩
    · have hil : i = ord.length := by omega
      subst hil
      have i1 : ¬ ((ord.length : Int) < (ord.length : Int)) := by omega
      go_wp2_with fail
      go_ret2
      exact ⟨_, _, rfl, m, ord, HI.out, fun x hx => HSH.out x (by rw [List.take_length]; exact hx)⟩
end Go.Proofs.Ytambnjhopijkfaa

/- Proved here: Home and Reachable, of the package ways and of the reference of chapter 11. Condition: the map reads and is right, the lists read. Written by gen_ways.py. -/
import Derived.Test.YtoeiongnjogpeaaMapTh
import Derived.Test.YtoeiongnjogpeaaDelF
import Derived.Test.YtoeiongnjogpeaaTurned
import Derived.Test.YtoeiongnjogpeaaTurned5
import Derived.Test.YtoeiongnjogpeaaOwnAll
import Derived.Deep.RegionHeld3
namespace Go.Proofs.Ytoeiongnjogpeaa
open Go.RowKit
def Reached (m : MapM) (lifts runs ss : List Int) : Prop := RS5 (waysE m lifts runs) m.bases ss
def HomeS (m : MapM) (runs ss : List Int) : Prop := RS5 ((downL m.runs runs).map turnE) m.bases ss
theorem sorted_ext2 : ∀ {a b : List Int}, a.Pairwise (· < ·) → b.Pairwise (· < ·) → (∀ x, x ∈ a ↔ x ∈ b) → a = b
  | [], [], _, _, _ => rfl
  | [], y :: b, _, _, h => by have := (h y).2 (by simp); simp at this
  | x :: a, [], _, _, h => by have := (h x).1 (by simp); simp at this
  | x :: a, y :: b, ha, hb, h => by
    rw [List.pairwise_cons] at ha hb
    have hxy : x = y := by
      rcases List.mem_cons.1 ((h x).1 (by simp)) with h1 | h1
      · exact h1
      · rcases List.mem_cons.1 ((h y).2 (by simp)) with h2 | h2
        · exact h2.symm
        · have := hb.1 x h1
          have := ha.1 y h2
          omega
    subst hxy
    rw [sorted_ext2 ha.2 hb.2 (fun z => ?_)]
    have hz := h z
    simp only [List.mem_cons] at hz
    constructor
    · intro hm
      have := ha.1 z hm
      rcases hz.1 (.inr hm) with h1 | h1
      · omega
      · exact h1
    · intro hm
      have := hb.1 z hm
      rcases hz.2 (.inr hm) with h1 | h1
      · omega
      · exact h1
theorem RS5.uniq2 {l : List Edge} {f a b : List Int} (h : RS5 l f a) (k : RS5 l f b) : a = b :=
  sorted_ext2 h.sorted k.sorted fun x => ⟨fun hx => h.sound (· ∈ b) k.sub k.closed x hx, fun hx => k.sound (· ∈ a) h.sub h.closed x hx⟩
theorem RS5.len {l : List Edge} {f s : List Int} (h : RS5 l f s) : s.length ≤ f.length + l.length := by
  have hnd : s.Nodup := h.sorted.imp (fun {a b} hab e => by omega)
  have hsub : ∀ x ∈ s, x ∈ f ++ l.map (·.dst) := h.sound (fun x => x ∈ f ++ l.map (·.dst)) (fun y hy => List.mem_append_left _ hy) (fun e he _ => List.mem_append_right _ (List.mem_map.2 ⟨e, he, rfl⟩))
  have := IMap.nodup_le hnd hsub
  rw [List.length_append, List.length_map] at this
  exact this
theorem Reached.len {m : MapM} (ok : MapOk m) {lifts runs ss : List Int} (h : Reached m lifts runs ss) : ss.length ≤ 1000 := by
  have h1 := RS5.len h
  have h2 := waysE_len ok lifts runs
  have := ok.nb
  omega
theorem HomeS.len {m : MapM} (ok : MapOk m) {runs ss : List Int} (h : HomeS m runs ss) : ss.length ≤ 1000 := by
  have h1 := RS5.len h
  have h2 := (ok.down runs).len
  rw [List.length_map] at h1
  have := ok.nb
  omega
def mapBox (w : World) (H : Nat) (N_ L_ R_ B_ : Option Addr) (nc lc rc bc : Nat) (m : MapM) : Prop := w.cell? ⟨H, 0, none⟩ = some (.slice N_ m.nodes.length nc) ∧ w.cell? ⟨H, 1, none⟩ = some (.slice L_ m.lifts.length lc) ∧ w.cell? ⟨H, 2, none⟩ = some (.slice R_ m.runs.length rc) ∧ w.cell? ⟨H, 3, none⟩ = some (.slice B_ m.bases.length bc)
theorem mapBox_new (w : World) (N_ L_ R_ B_ : Option Addr) (nc lc rc bc : Nat) (m : MapM) : mapBox (w.alloc (.cells #[.slice N_ m.nodes.length nc, .slice L_ m.lifts.length lc, .slice R_ m.runs.length rc, .slice B_ m.bases.length bc] 27)) w.heap.size N_ L_ R_ B_ nc lc rc bc m :=
  ⟨box_cell _ _ _ _ _ rfl, box_cell _ _ _ _ _ rfl, box_cell _ _ _ _ _ rfl, box_cell _ _ _ _ _ rfl⟩
theorem mapBox.below {w W : World} {H : Nat} {N_ L_ R_ B_ : Option Addr} {nc lc rc bc : Nat} {m : MapM} (h : mapBox w H N_ L_ R_ B_ nc lc rc bc m) (hb : Below w.heap.size w W) : mapBox W H N_ L_ R_ B_ nc lc rc bc m := by
  have z := fun {p : Addr} {v : Value} (hc : w.cell? p = some v) => (hb.cell (World.block_lt_of_cell? w _ hc)).trans hc
  exact ⟨z h.1, z h.2.1, z h.2.2.1, z h.2.2.2⟩
theorem gback_rd (A F : Option Addr) (c d : Nat) (l : List Edge) (to_ : List Int) (w : World) (hl : RdE w A l) (hf : RdI w F to_) (h200 : l.length ≤ 1000) (hfr : to_.length ≤ 10000)
    (hrf : ∀ x ∈ to_, -9223372036854775808 ≤ x ∧ x ≤ 9223372036854775807) (hrd : ∀ e ∈ l, -9223372036854775808 ≤ e.src ∧ e.src ≤ 9223372036854775807) :
    Calls Try.prog 50 #[.slice A l.length c, .slice F to_.length d] w fun e w' => ∃ A' c' ss, e = .returned (.slice A' ss.length c') ∧ RdI w' A' ss ∧ RS5 (l.map turnE) to_ ss ∧ Below w.heap.size w w' :=
  (gback_any A F c d l to_ w hl hf h200 hfr hrf hrd).mono (by
    rintro e w' ⟨v, ss, rfl, ho, hs, hb⟩
    obtain ⟨A', c', rfl, _, _⟩ := ho.slice
    exact ⟨A', c', ss, rfl, ho.rdI, hs, hb⟩)
theorem greach_rd (A F : Option Addr) (c d : Nat) (l : List Edge) (from_ : List Int) (w : World) (hl : RdE w A l) (hf : RdI w F from_) (h200 : l.length ≤ 1000) (hfr : from_.length ≤ 10000)
    (hrf : ∀ x ∈ from_, -9223372036854775808 ≤ x ∧ x ≤ 9223372036854775807) (hrd : ∀ e ∈ l, -9223372036854775808 ≤ e.dst ∧ e.dst ≤ 9223372036854775807) :
    Calls Try.prog 67 #[.slice A l.length c, .slice F from_.length d] w fun e w' => ∃ A' c' ss, e = .returned (.slice A' ss.length c') ∧ RdI w' A' ss ∧ RS5 l from_ ss ∧ Below w.heap.size w w' :=
  (greach_any A F c d l from_ w hl hf h200 hfr hrf hrd).mono (by
    rintro e w' ⟨v, ss, rfl, ho, hs, hb⟩
    obtain ⟨A', c', rfl, _, _⟩ := ho.slice
    exact ⟨A', c', ss, rfl, ho.rdI, hs, hb⟩)
set_option maxRecDepth 100000 in
set_option maxHeartbeats 4000000 in
theorem whome_any (V : MapA) (m : MapM) (ok : MapOk m) (F : Option Addr) (d : Nat) (runs : List Int) (w : World) (hm : RdM w V m) (hf : RdI w F runs) :
    Calls Try.prog 14 #[mapV V m, .slice F runs.length d] w fun e w' => ∃ A' c' ss, e = .returned (.slice A' ss.length c') ∧ HomeS m runs ss ∧ RdI w' A' ss ∧ Below w.heap.size w w' := by
  obtain ⟨W1, hW1⟩ : ∃ W1, W1 = w.alloc (.cells #[.slice V.N m.nodes.length V.n, .slice V.L m.lifts.length V.l, .slice V.R m.runs.length V.r, .slice V.B m.bases.length V.b] 27) := ⟨_, rfl⟩
  have hb1 : Below w.heap.size w W1 := by rw [hW1]; exact box_below _ _
  have hbox : mapBox W1 w.heap.size V.N V.L V.R V.B V.n V.l V.r V.b m := by rw [hW1]; exact mapBox_new _ _ _ _ _ _ _ _ _ _
  have hd := fun W (h : Below W1.heap.size W1 W) => tdown_any V m F d runs W ((hm.below hb1).below h) ((hf.below hb1).below h) (by have := ok.nr; omega)
  have hk := fun A c W (h : RdE W A (downL m.runs runs)) (hb : Below W1.heap.size W1 W) => gback_rd A V.B c V.b (downL m.runs runs) m.bases W h ((hm.bases.below hb1).below hb) (by have := (ok.down runs).len; omega) (by have := ok.nb; omega) (bases_w64 ok) (fun e he => by have := (ok.down runs).ok e he; unfold EdgeOk at this; omega)
  obtain ⟨E, hE⟩ : ∃ E, E = downL m.runs runs := ⟨_, rfl⟩
  rw [← hE] at hk
  simp only [← hE] at hd
  have HE := Lib.hid (show ∀ ss, RS5 (E.map turnE) m.bases ss → HomeS m runs ss by rw [hE]; exact fun _ h => h)
  obtain ⟨N_, L_, R_, B_, nc, lc, rc, bc⟩ := V
  dsimp only at hbox hd hk hW1
  unfold mapV at hd
  dsimp only at hd
  have HD := Lib.hid hd
  have HK := Lib.hid hk
  have HBOX := Lib.hid (fun W (h : Below W1.heap.size W1 W) => hbox.below h)
  have HB1 := Lib.hid hb1
  have hb0 : Hid (Below W1.heap.size W1 W1) := Below.refl _ _
  have hb2 : Hid (Below W1.heap.size W1 W1.drew) := (Below.refl _ _).drew
  clear hm hf hd hk hb1 hbox hE
  unfold mapV
  dsimp only
  go_enter Try.func14, Try.ntmps14
  go_wp2_with fail
  rw [← hW1]
  clear hW1
  go_region_held3 (fun W : World => W.cell? ⟨w.heap.size, 0, none⟩ = some (.slice N_ m.nodes.length nc) ∧ W.cell? ⟨w.heap.size, 1, none⟩ = some (.slice L_ m.lifts.length lc) ∧ W.cell? ⟨w.heap.size, 2, none⟩ = some (.slice R_ m.runs.length rc) ∧ W.cell? ⟨w.heap.size, 3, none⟩ = some (.slice B_ m.bases.length bc))
    (first | exact HBOX.out _ hb0.out | exact HBOX.out _ hb2.out | exact HBOX.out _ HB9.out | exact HBOX.out _ HB8.out)
    (first | (go_at_call 51; refine (HD.out _ (by first | exact hb0.out | exact hb2.out)).mono ?_; rintro e w8 ⟨A8, c8, rfl, hr8, hb8⟩; have HB8 := Lib.hid (show Below W1.heap.size W1 w8 from by first | exact hb8 | exact below_in hb2.out hb8 hb2.out.size); have HR8 := Lib.hid hr8; clear hb8 hr8) | (go_at_call 50; refine (HK.out _ _ _ HR8.out HB8.out).mono ?_; rintro e w9 ⟨A9, c9, ss, rfl, hr9, hs9, hb9⟩; have HB9 := Lib.hid (below_in HB8.out hb9 HB8.out.size); have HR9 := Lib.hid hr9; have HS9 := Lib.hid hs9; clear hb9 hr9 hs9))
  all_goals
    go_wp2_with fail
    go_ret
    first | exact ⟨A9, c9, ss, rfl, HE.out ss HS9.out, HR9.out, below_in HB1.out HB9.out HB1.out.size⟩ | exact ⟨A9, ss, ⟨_, rfl⟩, HE.out ss HS9.out, HR9.out, below_in HB1.out HB9.out HB1.out.size⟩
set_option maxRecDepth 100000 in
set_option maxHeartbeats 4000000 in
theorem rhome_any (V : MapA) (m : MapM) (ok : MapOk m) (F : Option Addr) (d : Nat) (runs : List Int) (w : World) (hm : RdM w V m) (hf : RdI w F runs) :
    Calls Try.prog 26 #[mapV V m, .slice F runs.length d] w fun e w' => ∃ A' c' ss, e = .returned (.slice A' ss.length c') ∧ HomeS m runs ss ∧ RdI w' A' ss ∧ Below w.heap.size w w' := by
  obtain ⟨W1, hW1⟩ : ∃ W1, W1 = w.alloc (.cells #[.slice V.N m.nodes.length V.n, .slice V.L m.lifts.length V.l, .slice V.R m.runs.length V.r, .slice V.B m.bases.length V.b] 27) := ⟨_, rfl⟩
  have hb1 : Below w.heap.size w W1 := by rw [hW1]; exact box_below _ _
  have hbox : mapBox W1 w.heap.size V.N V.L V.R V.B V.n V.l V.r V.b m := by rw [hW1]; exact mapBox_new _ _ _ _ _ _ _ _ _ _
  have hd := fun W (h : Below W1.heap.size W1 W) => rdown_any V m F d runs W ((hm.below hb1).below h) ((hf.below hb1).below h) (by have := ok.nr; omega)
  have hk := fun A c W (h : RdE W A (downL m.runs runs)) (hb : Below W1.heap.size W1 W) => rback_any A V.B c V.b (downL m.runs runs) m.bases W h ((hm.bases.below hb1).below hb) (by have := (ok.down runs).len; omega) (by have := ok.nb; omega)
  obtain ⟨E, hE⟩ : ∃ E, E = downL m.runs runs := ⟨_, rfl⟩
  rw [← hE] at hk
  simp only [← hE] at hd
  have HE := Lib.hid (show ∀ ss, RS5 (E.map turnE) m.bases ss → HomeS m runs ss by rw [hE]; exact fun _ h => h)
  obtain ⟨N_, L_, R_, B_, nc, lc, rc, bc⟩ := V
  dsimp only at hbox hd hk hW1
  unfold mapV at hd
  dsimp only at hd
  have HD := Lib.hid hd
  have HK := Lib.hid hk
  have HBOX := Lib.hid (fun W (h : Below W1.heap.size W1 W) => hbox.below h)
  have HB1 := Lib.hid hb1
  have hb0 : Hid (Below W1.heap.size W1 W1) := Below.refl _ _
  have hb2 : Hid (Below W1.heap.size W1 W1.drew) := (Below.refl _ _).drew
  clear hm hf hd hk hb1 hbox hE
  unfold mapV
  dsimp only
  go_enter Try.func26, Try.ntmps26
  go_wp2_with fail
  rw [← hW1]
  clear hW1
  go_region_held3 (fun W : World => W.cell? ⟨w.heap.size, 0, none⟩ = some (.slice N_ m.nodes.length nc) ∧ W.cell? ⟨w.heap.size, 1, none⟩ = some (.slice L_ m.lifts.length lc) ∧ W.cell? ⟨w.heap.size, 2, none⟩ = some (.slice R_ m.runs.length rc) ∧ W.cell? ⟨w.heap.size, 3, none⟩ = some (.slice B_ m.bases.length bc))
    (first | exact HBOX.out _ hb0.out | exact HBOX.out _ hb2.out | exact HBOX.out _ HB9.out | exact HBOX.out _ HB8.out)
    (first | (go_at_call 70; refine (HD.out _ (by first | exact hb0.out | exact hb2.out)).mono ?_; rintro e w8 ⟨A8, c8, rfl, hr8, hb8⟩; have HB8 := Lib.hid (show Below W1.heap.size W1 w8 from by first | exact hb8 | exact below_in hb2.out hb8 hb2.out.size); have HR8 := Lib.hid hr8; clear hb8 hr8) | (go_at_call 72; refine (HK.out _ _ _ HR8.out HB8.out).mono ?_; rintro e w9 ⟨A9, c9, ss, rfl, hr9, hs9, hb9⟩; have HB9 := Lib.hid (below_in HB8.out hb9 HB8.out.size); have HR9 := Lib.hid hr9; have HS9 := Lib.hid hs9; clear hb9 hr9 hs9))
  all_goals
    go_wp2_with fail
    go_ret
    first | exact ⟨A9, c9, ss, rfl, HE.out ss HS9.out, HR9.out, below_in HB1.out HB9.out HB1.out.size⟩ | exact ⟨A9, ss, ⟨_, rfl⟩, HE.out ss HS9.out, HR9.out, below_in HB1.out HB9.out HB1.out.size⟩
set_option maxRecDepth 100000 in
set_option maxHeartbeats 4000000 in
theorem wreach_any (V : MapA) (m : MapM) (ok : MapOk m) (F G : Option Addr) (d c : Nat) (lifts runs : List Int) (w : World) (hm : RdM w V m) (hf : RdI w F lifts) (hg : RdI w G runs) :
    Calls Try.prog 24 #[mapV V m, .slice F lifts.length d, .slice G runs.length c] w fun e w' => ∃ A' c' ss, e = .returned (.slice A' ss.length c') ∧ Reached m lifts runs ss ∧ RdI w' A' ss ∧ Below w.heap.size w w' := by
  obtain ⟨W1, hW1⟩ : ∃ W1, W1 = w.alloc (.cells #[.slice V.N m.nodes.length V.n, .slice V.L m.lifts.length V.l, .slice V.R m.runs.length V.r, .slice V.B m.bases.length V.b] 27) := ⟨_, rfl⟩
  have hb1 : Below w.heap.size w W1 := by rw [hW1]; exact box_below _ _
  have hbox : mapBox W1 w.heap.size V.N V.L V.R V.B V.n V.l V.r V.b m := by rw [hW1]; exact mapBox_new _ _ _ _ _ _ _ _ _ _
  have hd := fun W (h : Below W1.heap.size W1 W) => tdown_any V m G c runs W ((hm.below hb1).below h) ((hg.below hb1).below h) (by have := ok.nr; omega)
  have hu := fun W (h : Below W1.heap.size W1 W) => tup_any V m F d lifts W ((hm.below hb1).below h) ((hf.below hb1).below h) (by have := ok.nl; omega)
  have hE1 := waysE_len ok lifts runs
  have hE2 := waysE_ok ok lifts runs
  have hE3 : numF (waysE m lifts runs) 0 = numF (upL m.lifts lifts ++ downL m.runs runs) 0 := rfl
  have hlen := hE1
  unfold waysE at hlen
  rw [List.length_append] at hlen
  have hk := fun A c W (h : RdE W A (numF (waysE m lifts runs) 0)) (hb : Below W1.heap.size W1 W) => greach_rd A V.B c V.b (numF (waysE m lifts runs) 0) m.bases W h ((hm.bases.below hb1).below hb) (by rw [numF_len]; omega) (by have := ok.nb; omega) (bases_w64 ok) (fun e he => by
    obtain ⟨e', he', _, h2⟩ := numF_mem' _ _ _ he
    have := hE2 e' he'
    omega)
  obtain ⟨U, hU⟩ : ∃ U, U = upL m.lifts lifts := ⟨_, rfl⟩
  obtain ⟨E, hE⟩ : ∃ E, E = downL m.runs runs := ⟨_, rfl⟩
  obtain ⟨T, hT⟩ : ∃ T, T = numF (waysE m lifts runs) 0 := ⟨_, rfl⟩
  rw [← hT] at hk hE3
  rw [← hU, ← hE] at hE3 hlen
  simp only [← hE] at hd
  simp only [← hU] at hu
  have hj := fun (W : World) (A B : Option Addr) (a b : Nat) (h1 : RdE W A U) (h2 : RdE W B E) => join_any A B a b W.heap.size 2 U E (W.alloc (.cells #[.slice A U.length a, .slice B E.length b] 78)) (h1.below (box_below _ _)) (h2.below (box_below _ _)) (by omega) (box_cell _ _ _ _ _ rfl) (box_cell _ _ _ _ _ rfl)
  rw [← hE3] at hj
  have HE := Lib.hid (show ∀ ss, RS5 T m.bases ss → Reached m lifts runs ss by rw [hT]; exact fun _ h => h.numF)
  obtain ⟨N_, L_, R_, B_, nc, lc, rc, bc⟩ := V
  dsimp only at hbox hd hu hk hW1
  unfold mapV at hd hu
  dsimp only at hd hu
  have HD := Lib.hid hd
  have HU := Lib.hid hu
  have HK := Lib.hid hk
  have HJ := Lib.hid hj
  have HBOX := Lib.hid (fun W (h : Below W1.heap.size W1 W) => hbox.below h)
  have HB1 := Lib.hid hb1
  have hb0 : Hid (Below W1.heap.size W1 W1) := Below.refl _ _
  have hb2 : Hid (Below W1.heap.size W1 W1.drew) := (Below.refl _ _).drew
  clear hm hf hg hd hu hk hj hb1 hbox hE hU hT hE1 hE2 hE3 hlen
  unfold mapV
  dsimp only
  go_enter Try.func24, Try.ntmps24
  go_wp2_with fail
  rw [← hW1]
  clear hW1
  go_region_held3 (fun W : World => W.cell? ⟨w.heap.size, 0, none⟩ = some (.slice N_ m.nodes.length nc) ∧ W.cell? ⟨w.heap.size, 1, none⟩ = some (.slice L_ m.lifts.length lc) ∧ W.cell? ⟨w.heap.size, 2, none⟩ = some (.slice R_ m.runs.length rc) ∧ W.cell? ⟨w.heap.size, 3, none⟩ = some (.slice B_ m.bases.length bc))
    (first | exact HBOX.out _ hb0.out | exact HBOX.out _ hb2.out | exact HBOX.out _ HB8.out | exact HBOX.out _ (HB8.out.alloc HB8.out.size _) | exact HBOX.out _ HB9.out | exact HBOX.out _ HB7.out)
    (first | (go_at_call 51; refine (HD.out _ (by first | exact HB8.out | exact hb0.out | exact hb2.out)).mono ?_; rintro e w8 ⟨A8, c8, rfl, hr8, hb8⟩; (try have HRU := Lib.hid (HRU.out.below hb8)); have HB8 := Lib.hid (show Below W1.heap.size W1 w8 from by first | exact below_in HB8.out hb8 HB8.out.size | exact hb8 | exact below_in hb2.out hb8 hb2.out.size); have HRD := Lib.hid hr8; clear hb8 hr8) | (go_at_call 69; refine (HU.out _ (by first | exact HB8.out | exact hb0.out | exact hb2.out)).mono ?_; rintro e w8 ⟨A7, c7, rfl, hr8, hb8⟩; (try have HRD := Lib.hid (HRD.out.below hb8)); have HB8 := Lib.hid (show Below W1.heap.size W1 w8 from by first | exact below_in HB8.out hb8 HB8.out.size | exact hb8 | exact below_in hb2.out hb8 hb2.out.size); have HRU := Lib.hid hr8; clear hb8 hr8) | (go_at_call 68; refine (HJ.out _ _ _ _ _ HRU.out HRD.out).mono ?_; rintro e w9 ⟨A9, c9, rfl, hr9, hb9⟩; have HB9 := Lib.hid (below_in (HB8.out.alloc HB8.out.size _) hb9 (by have := HB8.out.size; simp; omega)); have HR9 := Lib.hid hr9; clear hb9 hr9) | (go_at_call 67; refine (HK.out _ _ _ HR9.out HB9.out).mono ?_; rintro e w7 ⟨A6, c6, ss, rfl, hr7, hs7, hb7⟩; have HB7 := Lib.hid (below_in HB9.out hb7 HB9.out.size); have HR7 := Lib.hid hr7; have HS7 := Lib.hid hs7; clear hb7 hr7 hs7))
  all_goals
    go_wp2_with fail
    go_ret
    first | exact ⟨A6, c6, ss, rfl, HE.out ss HS7.out, HR7.out, below_in HB1.out HB7.out HB1.out.size⟩ | exact ⟨A6, ss, ⟨_, rfl⟩, HE.out ss HS7.out, HR7.out, below_in HB1.out HB7.out HB1.out.size⟩
end Go.Proofs.Ytoeiongnjogpeaa

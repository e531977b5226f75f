/- Proved here: Needs, of the package ways and of the reference of chapter 11. Condition: the map reads and is right, the lists read. -/
import Derived.Test.YtoeiongnjogpeaaWFeeds
namespace Go.Proofs.Ytoeiongnjogpeaa
open Go.RowKit
def NeedsS (m : MapM) (lifts runs : List Int) (q : Int) (zs : List Int) : Prop := ∃ a b, StrS m lifts (minusL runs [q]) a ∧ StrS m lifts runs b ∧ zs = minusL a b
theorem NeedsS.uniq {m : MapM} {lifts runs : List Int} {q : Int} {a b : List Int} (h : NeedsS m lifts runs q a) (k : NeedsS m lifts runs q b) : a = b := by
  obtain ⟨s1, h1, r1, q1, rfl⟩ := h
  obtain ⟨s2, h2, r2, q2, rfl⟩ := k
  rw [StrS.uniq r1 r2, StrS.uniq q1 q2]
theorem below_go {w w1 w2 : World} (h : Below w.heap.size w w1) (k : Below w1.heap.size w1 w2) : Below w.heap.size w w2 := below_in h k h.size
theorem rdI_one (W : World) (q : Int) (b : Nat) (hb : b = W.heap.size) : RdI (W.alloc (.cells #[.int .i64 q] 3)) (some ⟨b, 0, none⟩) [q] := rdI_new W [q] (by simp) b hb
set_option maxRecDepth 100000 in
set_option maxHeartbeats 4000000 in
theorem wneeds_any (V : MapA) (m : MapM) (ok : MapOk m) (F G : Option Addr) (d c : Nat) (lifts runs : List Int) (q : Int) (w : World) (hm : RdM w V m) (hf : RdI w F lifts) (hg : RdI w G runs) (hlr : runs.length ≤ 1000) :
    Calls Try.prog 33 #[mapV V m, .slice F lifts.length d, .slice G runs.length c, .int .i64 q] w fun e w' => ∃ A' c' zs, e = .returned (.slice A' zs.length c') ∧ NeedsS m lifts runs q zs ∧ RdI w' A' zs ∧ Below w.heap.size w w' := by
  obtain ⟨W1, hW1⟩ : ∃ W1, W1 = w.alloc (.cells #[.slice V.N m.nodes.length V.n, .slice V.L m.lifts.length V.l, .slice V.R m.runs.length V.r, .slice V.B m.bases.length V.b] 27) := ⟨_, rfl⟩
  have hb1 : Below w.heap.size w W1 := by rw [hW1]; exact box_below _ _
  have hbox : mapBox W1 w.heap.size V.N V.L V.R V.B V.n V.l V.r V.b m := by rw [hW1]; exact mapBox_new _ _ _ _ _ _ _ _ _ _
  have hs2 := fun W (h : Below W1.heap.size W1 W) => wstr_any V m ok F G d c lifts runs W ((hm.below hb1).below h) ((hf.below hb1).below h) ((hg.below hb1).below h)
  obtain ⟨few, hfew⟩ : ∃ few, few = minusL runs [q] := ⟨_, rfl⟩
  have hs1 := fun A c W (h : Below W1.heap.size W1 W) (ha : RdI W A few) => wstr_any V m ok F A d c lifts few W ((hm.below hb1).below h) ((hf.below hb1).below h) ha
  have hw1 := fun B W (h : Below W1.heap.size W1 W) (hq : RdI W B [q]) => wwithout_any G B c 1 runs [q] W ((hg.below hb1).below h) hq (by omega)
  rw [← hfew] at hw1
  have HN := Lib.hid (show ∀ a b, StrS m lifts few a → StrS m lifts runs b → NeedsS m lifts runs q (minusL a b) by rw [hfew]; exact fun a b h k => ⟨a, b, h, k, rfl⟩)
  have HLR := Lib.hid (fun rr ss (h : StrS m lifts rr ss) => h.len ok)
  obtain ⟨N_, L_, R_, B_, nc, lc, rc, bc⟩ := V
  dsimp only at hbox hs1 hs2 hW1
  unfold mapV at hs1 hs2
  dsimp only at hs1 hs2
  have HS1 := Lib.hid hs1
  have HS2 := Lib.hid hs2
  have HW1 := Lib.hid hw1
  have HW := Lib.hid (fun A B c d a b W (ha : RdI W A a) (hb : RdI W B b) (hl : a.length ≤ 1000) => wwithout_any A B c d a b W ha hb (by omega))
  have HBOX := Lib.hid (fun W (h : Below W1.heap.size W1 W) => hbox.below h)
  have HB1 := Lib.hid hb1
  have hb0 : Hid (Below W1.heap.size W1 W1) := Below.refl _ _
  have hb2 : Hid (Below W1.heap.size W1 W1.drew) := (Below.refl _ _).drew
  clear hm hf hg hs1 hs2 hw1 hb1 hbox ok hfew
  unfold mapV
  dsimp only
  go_enter Try.func33, Try.ntmps33
  go_wp2_with fail
  rw [← hW1]
  clear hW1
  go_region_held3 (fun W : World => W.cell? ⟨w.heap.size, 0, none⟩ = some (.slice N_ m.nodes.length nc) ∧ W.cell? ⟨w.heap.size, 1, none⟩ = some (.slice L_ m.lifts.length lc) ∧ W.cell? ⟨w.heap.size, 2, none⟩ = some (.slice R_ m.runs.length rc) ∧ W.cell? ⟨w.heap.size, 3, none⟩ = some (.slice B_ m.bases.length bc))
    (first | exact HBOX.out _ HB8.out | exact HBOX.out _ (HB8.out.alloc HB8.out.size _) | exact HBOX.out _ hb0.out | exact HBOX.out _ hb2.out | exact HBOX.out _ (hb2.out.alloc hb2.out.size _) | exact HBOX.out _ (hb0.out.alloc hb0.out.size _))
    (first
      | (go_at_call_of 27 G; refine (HS2.out _ (by first | exact HB8.out | exact HB8.out.alloc HB8.out.size _ | exact hb2.out | exact hb2.out.alloc hb2.out.size _ | exact hb0.out | exact hb0.out.alloc hb0.out.size _)).mono ?_; rintro e w8 ⟨A2, c2, s2, rfl, hs8, hr8, hb8⟩; (try have HRA := Lib.hid (HRA.out.below hb8)); (try have HR1 := Lib.hid (HR1.out.below hb8)); (try have HRQ := Lib.hid (HRQ.out.below hb8)); (try have HRQ := Lib.hid ((rdI_one W1.drew q _ rfl).below hb8)); (try have HRQ := Lib.hid ((rdI_one W1 q _ rfl).below hb8)); have HB8 := Lib.hid (show Below W1.heap.size W1 w8 from by first | exact below_go HB8.out hb8 | exact below_go (HB8.out.alloc HB8.out.size _) hb8 | exact below_go hb2.out hb8 | exact below_go (hb2.out.alloc hb2.out.size _) hb8 | exact below_go hb0.out hb8 | exact below_go (hb0.out.alloc hb0.out.size _) hb8); have HR2 := Lib.hid hr8; have HT2 := Lib.hid hs8; clear hb8 hr8 hs8)
      | (go_at_call_of 73 G; refine (HW1.out _ _ (by first | exact HB8.out | exact HB8.out.alloc HB8.out.size _ | exact hb2.out | exact hb2.out.alloc hb2.out.size _ | exact hb0.out | exact hb0.out.alloc hb0.out.size _) (by first | exact HRQ.out | exact rdI_one _ q _ rfl)).mono ?_; rintro e w8 ⟨A3, c3, rfl, hr8, hb8⟩; (try have HR2 := Lib.hid ((HR2.out.below (box_below _ _)).below hb8)); (try have HR2 := Lib.hid (HR2.out.below hb8)); have HB8 := Lib.hid (show Below W1.heap.size W1 w8 from by first | exact below_go HB8.out hb8 | exact below_go (HB8.out.alloc HB8.out.size _) hb8 | exact below_go hb2.out hb8 | exact below_go (hb2.out.alloc hb2.out.size _) hb8 | exact below_go hb0.out hb8 | exact below_go (hb0.out.alloc hb0.out.size _) hb8); have HRA := Lib.hid hr8; clear hb8 hr8)
      | (go_at_call 27; refine (HS1.out _ _ _ HB8.out HRA.out).mono ?_; rintro e w8 ⟨A1, c1, s1, rfl, hs8, hr8, hb8⟩; (try have HR2 := Lib.hid (HR2.out.below hb8)); have HB8 := Lib.hid (show Below W1.heap.size W1 w8 from below_go HB8.out hb8); have HR1 := Lib.hid hr8; have HT1 := Lib.hid hs8; clear hb8 hr8 hs8)
      | (go_at_call 73; refine (HW.out _ _ _ _ _ _ _ HR1.out HR2.out (HLR.out _ _ HT1.out)).mono ?_; rintro e w9 ⟨A9, c9, rfl, hr9, hb9⟩; have HB8 := Lib.hid (below_go HB8.out hb9); have HR9 := Lib.hid hr9; clear hb9 hr9))
  all_goals
    have HST := Lib.hid (HN.out s1 s2 HT1.out HT2.out)
    obtain ⟨zz, hzz⟩ : ∃ zz, zz = minusL s1 s2 := ⟨_, rfl⟩
    rw [← hzz] at HST HR9 ⊢
    clear hzz
    go_wp2_with fail
    go_ret
    first | exact ⟨A9, c9, zz, rfl, HST.out, HR9.out, below_in HB1.out HB8.out HB1.out.size⟩ | exact ⟨A9, zz, ⟨_, rfl⟩, HST.out, HR9.out, below_in HB1.out HB8.out HB1.out.size⟩
set_option maxRecDepth 100000 in
set_option maxHeartbeats 4000000 in
theorem rneeds_any (V : MapA) (m : MapM) (ok : MapOk m) (F G : Option Addr) (d c : Nat) (lifts runs : List Int) (q : Int) (w : World) (hm : RdM w V m) (hf : RdI w F lifts) (hg : RdI w G runs) (hlr : runs.length ≤ 1000) :
    Calls Try.prog 34 #[mapV V m, .slice F lifts.length d, .slice G runs.length c, .int .i64 q] w fun e w' => ∃ A' c' zs, e = .returned (.slice A' zs.length c') ∧ NeedsS m lifts runs q zs ∧ RdI w' A' zs ∧ Below w.heap.size w w' := by
  obtain ⟨W1, hW1⟩ : ∃ W1, W1 = w.alloc (.cells #[.slice V.N m.nodes.length V.n, .slice V.L m.lifts.length V.l, .slice V.R m.runs.length V.r, .slice V.B m.bases.length V.b] 27) := ⟨_, rfl⟩
  have hb1 : Below w.heap.size w W1 := by rw [hW1]; exact box_below _ _
  have hbox : mapBox W1 w.heap.size V.N V.L V.R V.B V.n V.l V.r V.b m := by rw [hW1]; exact mapBox_new _ _ _ _ _ _ _ _ _ _
  have hs2 := fun W (h : Below W1.heap.size W1 W) => rstr_any V m ok F G d c lifts runs W ((hm.below hb1).below h) ((hf.below hb1).below h) ((hg.below hb1).below h)
  have hs1 := fun A c few W (h : Below W1.heap.size W1 W) (ha : RdI W A few) => rstr_any V m ok F A d c lifts few W ((hm.below hb1).below h) ((hf.below hb1).below h) ha
  have HN := Lib.hid (show ∀ a b, StrS m lifts (minusL runs [q]) a → StrS m lifts runs b → NeedsS m lifts runs q (minusL a b) from fun a b h k => ⟨a, b, h, k, rfl⟩)
  have HLR := Lib.hid (fun rr ss (h : StrS m lifts rr ss) => h.len ok)
  obtain ⟨N_, L_, R_, B_, nc, lc, rc, bc⟩ := V
  dsimp only at hbox hs1 hs2 hW1
  unfold mapV at hs1 hs2
  dsimp only at hs1 hs2
  have hlen := hg.1
  have HL := Lib.hid (hg.below hb1)
  have HS1 := Lib.hid hs1
  have HS2 := Lib.hid hs2
  have HW := Lib.hid (fun A B c d a b W (ha : RdI W A a) (hb : RdI W B b) (hl : a.length ≤ 1000) => rminus_any A B c d a b W ha hb (by omega))
  have HBOX := Lib.hid (fun W (h : Below W1.heap.size W1 W) => hbox.below h)
  have HB1 := Lib.hid hb1
  clear hm hf hg hs1 hs2 hb1 hbox ok
  unfold mapV
  dsimp only
  go_enter Try.func34, Try.ntmps34
  go_wp2_with fail
  rw [← hW1]
  clear hW1
  go_loopw [9, 10] (fun ov i wr => ∃ k : Nat, k ≤ runs.length ∧ i = .int .i64 k ∧ Hid (OwnI wr W1.heap.size ov (minusL (runs.take k) [q])) ∧ Hid (Below W1.heap.size W1 wr)) (fun _ i _ => runs.length - (intOf i).toNat)
  case atStart => exact ⟨0, Nat.zero_le _, rfl, OwnI.nil _ _, Below.refl _ _⟩
  case round =>
    obtain ⟨k, hk, rfl, HO, HB⟩ := hrel
    obtain ⟨A1, c1, rfl⟩ := HO.out.slice
    by_cases hlt : k < runs.length
    · have i1 : ((k : Int) < (runs.length : Int)) := by omega
      obtain ⟨ad, rfl⟩ := HL.out.addr hlt
      have x0 := HL.out.at_ HB.out hlt
      have hle : (minusL (runs.take k) [q]).length ≤ 100000 := by
        have := minusL_len (runs.take k) [q]
        rw [List.length_take] at this
        omega
      have HST := Lib.hid (minusL_take hlt [q])
      obtain ⟨out, hout⟩ : ∃ out, out = minusL (runs.take k) [q] := ⟨_, rfl⟩
      rw [← hout] at HO HST hle ⊢
      clear hout
      by_cases hx : numAt runs k = q
      · have t1 : (numAt runs k != q) = false := by simp [hx]
        have HT := Lib.hid (show minusL (runs.take (k + 1)) [q] = out by rw [HST.out, if_pos (by simp [hx]), List.append_nil])
        clear hx
        go_wp2_with fail
        go_roundw
        case rel => exact ⟨k + 1, by omega, by go_num, by rw [HT.out]; exact HO.out, HB.out⟩
        case measure => simp [intOf]; omega
      · have t1 : (numAt runs k != q) = true := by simp [hx]
        have HT := Lib.hid (show minusL (runs.take (k + 1)) [q] = out ++ [numAt runs k] by rw [HST.out, if_neg (by simp [hx])])
        clear hx
        go_wp2_with (at_builtin; go_must (refine wp_appI rfl _ _ rfl W1 wr (.slice A1 out.length c1) out (numAt runs k) rfl rfl HO.out (by omega) HB.out ?_); intro A3 c3 w3 HO3 HB3)
        go_roundw
        case rel => exact ⟨k + 1, by omega, by go_num, by rw [HT.out]; exact HO3.out, HB3.out⟩
        case measure => simp [intOf]; omega
    · have hkl : k = runs.length := by omega
      subst hkl
      rw [List.take_length] at HO ⊢
      have i1 : ¬ ((runs.length : Int) < (runs.length : Int)) := by omega
      have HRF := Lib.hid (OwnI.rdI HO.out)
      have hs1' := HS1.out A1 c1 (minusL runs [q])
      have hn := HN.out
      obtain ⟨few, hfew⟩ : ∃ few, few = minusL runs [q] := ⟨_, rfl⟩
      rw [← hfew] at hs1' hn HRF ⊢
      have HS1' := Lib.hid hs1'
      have HN' := Lib.hid hn
      clear hs1' hn hfew HO HS1 HN
      have hb0 : Hid (Below W1.heap.size W1 wr) := HB.out
      have hb2 : Hid (Below W1.heap.size W1 wr.drew) := HB.out.drew
      have HRF2 : Hid (RdI wr.drew A1 few) := HRF.out.below (Below.refl _ _).drew
      go_wp2_with fail
      go_region_held3 (fun W : World => W.cell? ⟨w.heap.size, 0, none⟩ = some (.slice N_ m.nodes.length nc) ∧ W.cell? ⟨w.heap.size, 1, none⟩ = some (.slice L_ m.lifts.length lc) ∧ W.cell? ⟨w.heap.size, 2, none⟩ = some (.slice R_ m.runs.length rc) ∧ W.cell? ⟨w.heap.size, 3, none⟩ = some (.slice B_ m.bases.length bc))
        (first | exact HBOX.out _ HB8.out | exact HBOX.out _ hb0.out | exact HBOX.out _ hb2.out)
        (first
          | (go_at_call_of 28 G; refine (HS2.out _ (by first | exact HB8.out | exact hb2.out | exact hb0.out)).mono ?_; rintro e w8 ⟨A2, c2, s2, rfl, hs8, hr8, hb8⟩; (try have HR1 := Lib.hid (HR1.out.below hb8)); (try have HRA := Lib.hid (HRF.out.below hb8)); (try have HRA := Lib.hid (HRF2.out.below hb8)); have HB8 := Lib.hid (show Below W1.heap.size W1 w8 from by first | exact below_go HB8.out hb8 | exact below_go hb2.out hb8 | exact below_go hb0.out hb8); have HR2 := Lib.hid hr8; have HT2 := Lib.hid hs8; clear hb8 hr8 hs8)
          | (go_at_call 28; refine (HS1'.out _ (by first | exact HB8.out | exact hb2.out | exact hb0.out) (by first | exact HRA.out | exact HRF.out | exact HRF2.out)).mono ?_; rintro e w8 ⟨A4, c4, s1, rfl, hs8, hr8, hb8⟩; (try have HR2 := Lib.hid (HR2.out.below hb8)); have HB8 := Lib.hid (show Below W1.heap.size W1 w8 from by first | exact below_go HB8.out hb8 | exact below_go hb2.out hb8 | exact below_go hb0.out hb8); have HR1 := Lib.hid hr8; have HT1 := Lib.hid hs8; clear hb8 hr8 hs8)
          | (go_at_call 74; refine (HW.out _ _ _ _ _ _ _ HR1.out HR2.out (HLR.out _ _ HT1.out)).mono ?_; rintro e w9 ⟨A9, c9, rfl, hr9, hb9⟩; have HB8 := Lib.hid (below_go HB8.out hb9); have HR9 := Lib.hid hr9; clear hb9 hr9))
      all_goals
        have HST := Lib.hid (HN'.out s1 s2 HT1.out HT2.out)
        obtain ⟨zz, hzz⟩ : ∃ zz, zz = minusL s1 s2 := ⟨_, rfl⟩
        rw [← hzz] at HST HR9 ⊢
        clear hzz
        go_wp2_with fail
        go_ret
        first | exact ⟨A9, c9, zz, rfl, HST.out, HR9.out, below_in HB1.out HB8.out HB1.out.size⟩ | exact ⟨A9, zz, ⟨_, rfl⟩, HST.out, HR9.out, below_in HB1.out HB8.out HB1.out.size⟩
end Go.Proofs.Ytoeiongnjogpeaa

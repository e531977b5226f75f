/- Proved here: the law WaysLeast returns true for all arguments that read, and changes nothing that was there before. Written by gen_wlaw.py. -/
import Derived.Test.YtoeiongnjogpeaaWLead
namespace Go.Proofs.Ytoeiongnjogpeaa
open Go.RowKit
/-- A path of listed runs to a base is no shorter than the way. -/
theorem least_main {x : OpenM} (ok : MapOk x.m) {p : List Int} {u k : Int} {y : NodeM} (hu : findNode x.m.nodes u = some y) {st : WSt} (h : WayS x.m x.runs u st) (hl : leadR x p u = (k, true)) :
    st.2.2 = true ∧ (st.2.1 < k ∨ st.2.1 = k ∧ st.1.length ≤ p.length) := by
  unfold leadR at hl
  cases hw : walkF (downL x.m.runs x.runs) p 0 u with
  | none => rw [hw] at hl; cases hl
  | some r =>
    obtain ⟨n, b⟩ := r
    rw [hw] at hl
    simp only [Prod.mk.injEq, decide_eq_true_eq] at hl
    obtain ⟨rfl, hb⟩ := hl
    obtain ⟨v, hv, h1, h2⟩ := follow_walk (ok.down x.runs) p 0 u n hw
    unfold WayS at h
    rw [hu] at h
    have F := WaySt.fold (ok.down x.runs) h
    cases hs : st.2.2 with
    | false => exact absurd hv ((F.no hs).2.2 b hb v)
    | true =>
      refine ⟨rfl, ?_⟩
      have := (F.yes hs).2.2 b hb v hv
      omega
set_option maxRecDepth 100000 in
set_option maxHeartbeats 4000000 in
theorem waysLeast_walk (V : OpenA) (x : OpenM) (_u0 : Unit) (P : Option Addr) (pc : Nat) (p : List Int) (u : Int) (w : World) (hx : RdO w V x) (hp : RdI w P p) :
    Calls Try.prog 9 #[openV V x, .slice P p.length pc, .int .i64 u] w fun e w' => e = .returned (.bool true) ∧ Below w.heap.size w w' := by
  obtain ⟨W1, hW1⟩ : ∃ W1, W1 = w.alloc (.cells #[.slice V.V.N x.m.nodes.length V.V.n, .slice V.V.L x.m.lifts.length V.V.l, .slice V.V.R x.m.runs.length V.V.r, .slice V.V.B x.m.bases.length V.V.b, .slice V.lifts x.lifts.length V.lc, .slice V.runs x.runs.length V.rc] 52) := ⟨_, rfl⟩
  have hb1 : Below w.heap.size w W1 := by rw [hW1]; exact box_below _ _
  have hbox : openBox W1 w.heap.size V.V.N V.V.L V.V.R V.V.B V.lifts V.runs V.V.n V.V.l V.V.r V.V.b V.lc V.rc x := by rw [hW1]; exact openBox_new _ _ _ _ _ _ _ _ _ _ _ _ _ _
  have ha := walive_any W1
  have hsm := fun W (h : Below W1.heap.size W1 W) => small_any V x W ((hx.below hb1).below h)
  have HXX := Lib.hid (hx.below hb1)
  have HPP := Lib.hid (hp.below hb1)
  have hpm := hp.1
  unfold openV at hsm
  obtain ⟨V_, hVV⟩ : ∃ V_, V_ = V := ⟨_, rfl⟩
  rw [← hVV] at HXX
  have HVV := Lib.hid hVV
  obtain ⟨⟨N_, L_, R_, B_, nc, lc, rc, bc⟩, F_, G_, fc, gc⟩ := V
  dsimp only at hbox hsm hW1
  have HA := Lib.hid ha
  have HSM := Lib.hid hsm
  have HBOX := Lib.hid (fun W (h : Below W1.heap.size W1 W) => hbox.below h)
  have HB1 := Lib.hid hb1
  clear hx hb1 hbox ha hsm hVV hp
  unfold openV
  dsimp only
  go_enter Try.func9, Try.ntmps9
  rw [hW1] at HA
  go_wp2_with fail
  refine HA.out.mono ?_
  rw [← hW1]
  rintro e w2 ⟨rfl, hb⟩
  have HB2 := Lib.hid hb
  obtain ⟨q0, q1, q2, q3, q4, q5⟩ := HBOX.out w2 HB2.out
  have HS2 := Lib.hid (HSM.out w2 HB2.out)
  clear hb HA HSM hW1
  go_wp2_with fail
  refine HS2.out.mono ?_
  rintro e w3 ⟨sb, rfl, hsb, hb⟩
  have HB3 := Lib.hid (below_go HB2.out hb)
  have HSB := Lib.hid hsb
  clear hb HS2 hsb q0 q1 q2 q3 q4 q5
  cases sb with
  | false =>
    go_wp2_with fail
    go_ret
    exact ⟨rfl, below_in HB1.out HB3.out HB1.out.size⟩
  | true =>
    obtain ⟨h100, h101, hok⟩ := HSB.out rfl
    have HOK := Lib.hid hok
    obtain ⟨H, hH⟩ : ∃ H, H = w.heap.size := ⟨_, rfl⟩
    have HBX := Lib.hid (fun W (h : Below w3.heap.size w3 W) => HBOX.out W (below_go HB3.out h))
    have HX3 := Lib.hid (HXX.out.below HB3.out)
    have HBE := Lib.hid (below_in HB1.out HB3.out HB1.out.size)
    rw [← hH] at HBX ⊢
    have HP3 := Lib.hid (HPP.out.below HB3.out)
    clear HPP
    clear HSB hok hH HBOX HXX HB3 HB2 HB1
    have cn := fun W (h : Below w3.heap.size w3 W) => rnode_any V_.V x.m u W (HX3.out.m.below h)
    rw [HVV.out] at cn
    unfold mapV at cn
    dsimp only at cn
    have CN := Lib.hid cn
    clear cn
    have cw := fun W (h : Below w3.heap.size w3 W) => wway_any V_.V x.m HOK.out V_.runs V_.rc x.runs u W (HX3.out.m.below h) (HX3.out.runs.below h)
    rw [HVV.out] at cw
    unfold mapV at cw
    dsimp only at cw
    have CW := Lib.hid cw
    clear cw
    by_cases hlp : p.length ≤ 100
    · have i1 : ¬ (100 < p.length) := by omega
      have i2 : ¬ ((100 : Int) < (p.length : Int)) := by omega
      have cl := fun W (h : Below w3.heap.size w3 W) => leads_any V_ x HOK.out P pc p u W (HX3.out.below h) (HP3.out.below h) (by omega)
      rw [HVV.out] at cl
      unfold openV at cl
      dsimp only at cl
      have CL := Lib.hid cl
      have CN1 := Lib.hid (CN.out w3 (Below.refl _ _))
      obtain ⟨q0, q1, q2, q3, q4, q5⟩ := HBX.out w3 (Below.refl _ _)
      clear HX3 HVV cl HP3
      cases hfn : findNode x.m.nodes u with
      | none =>
        have hc := CN1.out
        unfold nodeR at hc
        rw [hfn] at hc
        dsimp only at hc
        have HC := Lib.hid hc
        clear hc hfn CN1 CL CW
        go_wp2_with fail
        refine HC.out.mono ?_
        rintro e w4 ⟨rfl, hb⟩
        have HB4 := Lib.hid (hb.alloc hb.size (.cells #[.int .i64 0, .int .i64 0] 68))
        clear hb HC q0 q1 q2 q3 q4 q5
        go_wp2_with fail
        go_ret
        exact ⟨rfl, below_in HBE.out HB4.out HBE.out.size⟩
      | some y =>
        have hc := CN1.out
        unfold nodeR at hc
        rw [hfn] at hc
        dsimp only at hc
        have HC := Lib.hid hc
        have HFN := Lib.hid hfn
        clear hc hfn CN1
        go_wp2_with fail
        refine HC.out.mono ?_
        rintro e w4 ⟨rfl, hb⟩
        have HB4 := Lib.hid (hb.alloc hb.size (.cells #[.int .i64 y.id, .int .i64 y.alt] 68))
        clear hb HC q0 q1 q2 q3 q4 q5
        obtain ⟨q0, q1, q2, q3, q4, q5⟩ := HBX.out _ HB4.out
        have HC := Lib.hid (CL.out _ HB4.out)
        obtain ⟨kk, hkk⟩ : ∃ kk, kk = (leadR x p u).1 := ⟨_, rfl⟩
        obtain ⟨hm, hhm⟩ : ∃ hm, hm = (leadR x p u).2 := ⟨_, rfl⟩
        have HLR := Lib.hid (show leadR x p u = (kk, hm) by rw [hkk, hhm])
        rw [← hkk, ← hhm] at HC
        clear hkk hhm
        go_wp2_with fail
        refine HC.out.mono ?_
        rintro e w5 ⟨rfl, hb⟩
        have HB5 := Lib.hid (below_go HB4.out hb)
        clear hb HC q0 q1 q2 q3 q4 q5 HB4
        obtain ⟨q0, q1, q2, q3, q4, q5⟩ := HBX.out w5 HB5.out
        have HC := Lib.hid (CW.out w5 HB5.out)
        go_wp2_with fail
        refine HC.out.mono ?_
        rintro e w6 ⟨A6, c6, ⟨ids, n, okw⟩, rfl, hs, hr, hb⟩
        have HB6 := Lib.hid (below_go HB5.out hb)
        have HS6 := Lib.hid hs
        clear hb HC hs hr q0 q1 q2 q3 q4 q5 HB5
        dsimp only
        cases hm with
        | false =>
          go_wp2_with fail
          go_ret
          exact ⟨rfl, below_in HBE.out HB6.out HBE.out.size⟩
        | true =>
          obtain ⟨h1, h2⟩ := least_main HOK.out HFN.out HS6.out HLR.out
          dsimp only at h1 h2
          subst h1
          rcases h2 with h2 | ⟨rfl, h2⟩
          · go_wp2_with fail
            go_ret
            exact ⟨rfl, below_in HBE.out HB6.out HBE.out.size⟩
          · have t1 : ¬ n < n := by omega
            have t2 : (n == n) = true := by simp
            have t3 : (ids.length : Int) ≤ (p.length : Int) := by omega
            go_wp2_with fail
            go_ret
            exact ⟨rfl, below_in HBE.out HB6.out HBE.out.size⟩
    · have i1 : 100 < p.length := by omega
      have i2 : (100 : Int) < (p.length : Int) := by omega
      clear HX3 HVV CN CW HP3
      go_wp2_with fail
      go_ret
      exact ⟨rfl, HBE.out⟩
end Go.Proofs.Ytoeiongnjogpeaa

/- FnExactStepsText: the walk. -/
import Derived.Test.YtlfgkibfhhifmaaDoorStepsX
namespace Go.Proofs.YtlfgkibfhhifmaaDoor
open Go.RowKit Go.Proofs.YtlfgkibfhhifmaaDoorW.PrintWords Go.Proofs.YtlfgkibfhhifmaaDoorW.PrintLast Go.Proofs.YtlfgkibfhhifmaaDoorW.PrintMore Go.Proofs.YtlfgkibfhhifmaaDoor.PTxt
set_option maxHeartbeats 4000000 in
set_option maxRecDepth 100000 in
theorem fnStepsText_any (A B : Option Addr) (c d : Nat) (es hs : List Nat) (w : World) (hG : GW w)
    (hE : Kd.C (kdFl .f32) w A es.length es) (hH : Kd.C (kdFl .f32) w B hs.length hs) (hce : es.length ≤ c) (hch : hs.length ≤ d) (he : ∀ x ∈ es, x < 4294967296) (hh : ∀ x ∈ hs, x < 4294967296) :
    Calls Tryd.prog 6 #[.agg #[.slice A es.length c, .slice B hs.length d]] w fun e w' => e = .returned (.bool true) ∧ Below w.heap.size w w' := by
  have HI := Lib.hid (impl_SText es hs he hh)
  obtain ⟨r, hr, hrn⟩ := szSteps_eq es hs hE.2.1 hH.2.1
  have HZ := Lib.hid hr
  have HE := Aside0.mk hE
  have HH := Aside0.mk hH
  have HX := Aside0.mk he
  have HY := Aside0.mk hh
  have HTS := Aside0.mk (toSteps_same es hs)
  generalize hv : stepsOk es hs = v at HI
  have HV := Lib.hid hv
  generalize ht : (if v = true then stepsT es hs else ⟨#[]⟩) = t at HI
  have HT := Lib.hid ht
  have HG := Aside0.mk hG
  clear hE hH he hh hv ht hr hG
  go_enter Tryd.func6, Tryd.ntmps6
  go_wp2_with (fail)
  refine (laws_szSteps.calls A c es B d hs 1048576 r _ (Kd.C_alloc HE.out _) hce (Kd.C_alloc HH.out _) hch HZ.out).mono ?_
  rintro e w1 ⟨rfl, hb1⟩
  have hB1 := below_then (below_alloc (Below.refl w.heap.size w) _) (by simp) hb1
  have bk1 := blk_below (heap_alloc_new w _) hb1
  clear hb1 HZ
  by_cases hneg : r < 0
  · go_wp2
    go_ret
    exact ⟨rfl, hB1⟩
  · have hl : Hid (es.length + hs.length ≤ 1048576) := Lib.hid (by omega)
    clear hrn
    have c0 : w1.cell? ⟨w.heap.size, 0, none⟩ = some (.slice A es.length c) := (blk_cell bk1 0).trans rfl
    have c1 : w1.cell? ⟨w.heap.size, 1, none⟩ = some (.slice B hs.length d) := (blk_cell bk1 1).trans rfl
    have HTS2 := Lib.hid (HTS.out (by have := hl.out; omega) (by have := hl.out; omega))
    have BK1 := Aside0.mk bk1
    clear bk1 HTS
    go_wp2_with (fail)
    refine (laws_toSteps.calls _ A c es B d hs es hs _ (Kd.C_below HE.out hB1) hce (Kd.C_below HH.out hB1) hch HTS2.out).mono ?_
    rintro e w2 ⟨v0, v1, rfl, hr0, hr1, hb2⟩
    obtain ⟨A2, c2, rfl, hc2, hC2⟩ := Kd.R_reads hr0
    obtain ⟨B2, d2, rfl, hd2, hD2⟩ := Kd.R_reads hr1
    have hB2 := below_then hB1 hB1.size hb2
    have BK2 := Aside0.mk (blk_below BK1.out hb2)
    have HC2 := Aside0.mk hC2
    have HD2 := Aside0.mk hD2
    clear hr0 hr1 hb2 c0 c1 hC2 hD2 BK1
    go_wp2_with (fail)
    refine (StepsText_any A2 B2 c2 d2 es hs _ HC2.out HD2.out hc2 hd2 (by have := hl.out; omega) (by have := hl.out; omega) HX.out HY.out v t HV.out HT.out).mono ?_
    rintro e w3 ⟨rfl, hb3⟩
    have hB3 := below_then hB2 hB2.size hb3
    have bk3 := blk_below BK2.out hb3
    have c0 : w3.cell? ⟨w.heap.size, 0, none⟩ = some (.slice A es.length c) := (blk_cell bk3 0).trans rfl
    have c1 : w3.cell? ⟨w.heap.size, 1, none⟩ = some (.slice B hs.length d) := (blk_cell bk3 1).trans rfl
    have BK3 := Aside0.mk bk3
    clear hb3 BK2 HC2 HD2 hc2 hd2 bk3 hB2 hB1
    go_wp2_with (fail)
    refine (laws_toSteps.calls _ A c es B d hs es hs _ (Kd.C_below HE.out hB3) hce (Kd.C_below HH.out hB3) hch HTS2.out).mono ?_
    rintro e w4 ⟨v0, v1, rfl, hr0, hr1, hb4⟩
    obtain ⟨A4, c4, rfl, hc4, hC4⟩ := Kd.R_reads hr0
    obtain ⟨B4, d4, rfl, hd4, hD4⟩ := Kd.R_reads hr1
    have hB4 := below_then hB3 hB3.size hb4
    have bk4 := blk_below BK3.out hb4
    have HC4 := Aside0.mk hC4
    have HD4 := Aside0.mk hD4
    clear hr0 hr1 hb4 c0 c1 hC4 hD4 BK3
    go_wp2_with (fail)
    refine (impl_StepsText.calls 13 A4 c4 es B4 d4 hs t v _ (Kd.C_alloc HC4.out _) hc4 (Kd.C_alloc HD4.out _) hd4 (HG.out.below (below_alloc hB4 _)) HI.out).mono ?_
    rintro e w5 ⟨rfl, hb5⟩
    have hB5 := below_then (below_alloc hB4 _) (by have := hB4.size; simp; omega) hb5
    have bk5 := blk_below (blk_alloc bk4 _) hb5
    have bx5 := blk_below (heap_alloc_new w4 _) hb5
    have hge : w.heap.size ≤ w4.heap.size := hB4.size
    have HC5 := Aside0.mk (Kd.C_below (Kd.C_alloc HC4.out _) hb5)
    have HD5 := Aside0.mk (Kd.C_below (Kd.C_alloc HD4.out _) hb5)
    clear HC4 HD4 hb5 HI HT HV HG bk4 hB4 hB3
    have HS := Aside0.mk (show ∀ W, Below w5.heap.size w5 W → Below w5.heap.size w5 W ∧ W.cell? ⟨w.heap.size, 0, none⟩ = some (.slice A es.length c) ∧ W.cell? ⟨w.heap.size, 1, none⟩ = some (.slice B hs.length d) ∧ W.cell? ⟨w4.heap.size, 0, none⟩ = some (.slice A4 es.length c4) ∧ W.cell? ⟨w4.heap.size, 1, none⟩ = some (.slice B4 hs.length d4) from fun W hW => by
      have b1 := blk_below bk5 hW
      have b2 := blk_below bx5 hW
      exact ⟨hW, (blk_cell b1 0).trans rfl, (blk_cell b1 1).trans rfl, (blk_cell b2 0).trans rfl, (blk_cell b2 1).trans rfl⟩)
    have CT := Aside0.mk (show ∀ W, Below w5.heap.size w5 W → Calls Tryd.prog 24 #[.agg #[.slice A es.length c, .slice B hs.length d]] W fun e w' => ∃ A6 c6 B6 d6, e = .returned (.agg #[.slice A6 es.length c6, .slice B6 hs.length d6]) ∧ Aside0 (Kd.C (kdFl .f32) w' A6 es.length es) ∧ Aside0 (Kd.C (kdFl .f32) w' B6 hs.length hs) ∧ Below w5.heap.size w5 w' ∧ w'.cell? ⟨w.heap.size, 0, none⟩ = some (.slice A es.length c) ∧ w'.cell? ⟨w.heap.size, 1, none⟩ = some (.slice B hs.length d) ∧ w'.cell? ⟨w4.heap.size, 0, none⟩ = some (.slice A4 es.length c4) ∧ w'.cell? ⟨w4.heap.size, 1, none⟩ = some (.slice B4 hs.length d4) from fun W hW => by
      refine (laws_toSteps.calls _ A c es B d hs es hs W (Kd.C_below HE.out (below_then hB5 hB5.size hW)) hce (Kd.C_below HH.out (below_then hB5 hB5.size hW)) hch HTS2.out).mono ?_
      rintro e w6 ⟨v0, v1, rfl, hr0, hr1, hb6⟩
      obtain ⟨A6, c6, rfl, hc6, hC6⟩ := Kd.R_reads hr0
      obtain ⟨B6, d6, rfl, hd6, hD6⟩ := Kd.R_reads hr1
      exact ⟨A6, c6, B6, d6, rfl, ⟨hC6⟩, ⟨hD6⟩, HS.out w6 (below_then hW hW.size hb6)⟩)
    have CQ := Aside0.mk (show ∀ W A6 B6 c6 d6, Below w5.heap.size w5 W → Aside0 (Kd.C (kdFl .f32) W A6 es.length es) → Aside0 (Kd.C (kdFl .f32) W B6 hs.length hs) → Calls Tryd.prog 26 #[.agg #[.slice A4 es.length c4, .slice B4 hs.length d4], .agg #[.slice A6 es.length c6, .slice B6 hs.length d6]] W fun e w' => e = .returned (.bool true) ∧ Below w5.heap.size w5 w' from fun W A6 B6 c6 d6 hW h1 h2 =>
      (eqSteps_any A4 B4 A6 B6 c4 d4 c6 d6 es hs W (Kd.C_below HC5.out hW) (Kd.C_below HD5.out hW) h1.out h2.out).mono fun e w' ⟨he, hb⟩ => ⟨he, below_then hW hW.size hb⟩)
    obtain ⟨hB0, c0, c1, x0, x1⟩ := HS.out w5 (Below.refl _ _)
    clear HS HC5 HD5 HE HH HTS2 bk5 bx5 hce hch hc4 hd4
    go_wp2
    have hBd := below_drew hB0
    go_region_with (first
      | ((with_reducible refine (CT.out _ ?_).mono ?_); (first | exact hBd | assumption); rintro e w1 ⟨A6, c6, B6, d6, rfl, hC6, hD6, hB6, k0, k1, k2, k3⟩)
      | ((with_reducible refine (CQ.out _ _ _ _ _ ?_ ?_ ?_).mono ?_); assumption; assumption; assumption; rintro e w1 ⟨rfl, hB7⟩))
    all_goals go_wp2
    all_goals go_ret
    all_goals exact ⟨rfl, below_then hB5 hB5.size ‹Below w5.heap.size w5 _›⟩
end Go.Proofs.YtlfgkibfhhifmaaDoor

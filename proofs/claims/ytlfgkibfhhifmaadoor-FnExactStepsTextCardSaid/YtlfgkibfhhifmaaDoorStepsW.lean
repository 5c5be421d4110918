/- The text of steps: the walks. -/
import Derived.Test.YtlfgkibfhhifmaaDoorSteps
namespace Go.Proofs.YtlfgkibfhhifmaaDoor
open Go.RowKit Go.Proofs.YtlfgkibfhhifmaaDoorW.PrintWords Go.Proofs.YtlfgkibfhhifmaaDoorW.PrintLast Go.Proofs.YtlfgkibfhhifmaaDoorW.PrintMore Go.Proofs.YtlfgkibfhhifmaaDoor.PTxt
theorem upFrom_step (xs : List Nat) (n j : Nat) : upFrom xs (n + 1) j = (up xs j && upFrom xs n (j + 1)) := rfl
set_option maxHeartbeats 4000000 in
set_option maxRecDepth 100000 in
theorem l02Is_any (g : Nat) (A B : Option Addr) (c d : Nat) (es hs : List Nat) (w : World) (hb : w.heap[g]? = some (.cells #[.slice A es.length c, .slice B hs.length d] 44 (0, 0)))
    (hE : Kd.C (kdFl .f32) w A es.length es) (hH : Kd.C (kdFl .f32) w B hs.length hs) (hce : es.length ≤ c) (hch : hs.length ≤ d) (hle : es.length < 4611686018427387904) (hlh : hs.length < 4611686018427387904) :
    Calls Tryd.prog 58 #[.pointer (some ⟨g, 0, none⟩)] w fun e w' => e = .returned (.bool (stepsOk es hs)) ∧ Drawn0 w w' := by
  have c0 : w.cell? ⟨g, 0, none⟩ = some (.slice A es.length c) := by simp [World.cell?, hb]
  have c1 : w.cell? ⟨g, 1, none⟩ = some (.slice B hs.length d) := by simp [World.cell?, hb]
  have HE := Aside0.mk hE
  have HH := Aside0.mk hH
  have FE := Lib.hid (spec_finite es 0 hle)
  have FH := Lib.hid (spec_finite hs 0 hlh)
  have S0 := Lib.hid (show stepsOk es hs = (decide (es.length < 12) && decide (hs.length = es.length + 1) && finAll es && finAll hs && upAll es) from rfl)
  have NU := Aside0.mk (notUp_of_fin es)
  clear hE hH hb
  by_cases h1 : es.length < 12
  case neg =>
    go_enter Tryd.func58, Tryd.ntmps58
    go_wp2
    go_ret
    exact ⟨by rw [S0.out]; simp [h1], Drawn0.refl _⟩
  by_cases h2 : hs.length = es.length + 1
  case neg =>
    go_enter Tryd.func58, Tryd.ntmps58
    go_wp2
    go_ret
    exact ⟨by rw [S0.out]; simp [h2], Drawn0.refl _⟩
  have H2 := Lib.hid h2
  have h2' : (es.length : Int) + 1 = (hs.length : Int) := by omega
  clear h2
  cases hf1 : finAll es with
  | false =>
    have F1 := Lib.hid hf1
    clear hf1
    go_enter Tryd.func58, Tryd.ntmps58
    go_wp2_with (go_at_call 101; refine (PFin.spec_l02Finite.calls _ A c es false _ HE.out hce (by rw [FE.out, F1.out])).mono ?_; rintro e w' ⟨rfl, ⟨nd, rfl⟩⟩)
    go_ret
    exact ⟨by rw [S0.out, F1.out]; simp, ⟨_, rfl⟩⟩
  | true =>
    have F1 := Lib.hid hf1
    clear hf1
    cases hf2 : finAll hs with
    | false =>
      have F2 := Lib.hid hf2
      clear hf2
      go_enter Tryd.func58, Tryd.ntmps58
      go_wp2_with (fail)
      refine (PFin.spec_l02Finite.calls _ A c es true _ HE.out hce (by rw [FE.out, F1.out])).mono ?_
      rintro e w' ⟨rfl, ⟨nd, rfl⟩⟩
      go_wp2_with (fail)
      refine (PFin.spec_l02Finite.calls _ B d hs false _ (Kd.C_drewN HH.out _) hch (by rw [FH.out, F2.out])).mono ?_
      rintro e w' ⟨rfl, ⟨nd2, rfl⟩⟩
      go_wp2
      go_ret
      exact ⟨by rw [S0.out, F2.out]; simp, ⟨_, rfl⟩⟩
    | true =>
      have F2 := Lib.hid hf2
      clear hf2
      go_enter Tryd.func58, Tryd.ntmps58
      go_wp2_with (fail)
      refine (PFin.spec_l02Finite.calls _ A c es true _ HE.out hce (by rw [FE.out, F1.out])).mono ?_
      rintro e w' ⟨rfl, ⟨nd, rfl⟩⟩
      go_wp2_with (fail)
      refine (PFin.spec_l02Finite.calls _ B d hs true _ (Kd.C_drewN HH.out _) hch (by rw [FH.out, F2.out])).mono ?_
      rintro e w' ⟨rfl, ⟨nd2, rfl⟩⟩
      go_wp2
      have hS : Hid (stepsOk es hs = upAll es) := Lib.hid (by rw [S0.out, F1.out, F2.out]; simp [h1, H2.out])
      clear S0 FE FH F2 HH c1 h2'
      go_loopw [4] (fun v wr => ∃ k : Nat, v = .int .i64 k ∧ 1 ≤ k ∧ Hid (upAll es = upFrom es (es.length - k) k) ∧ Drawn0 w wr) (fun v _ => es.length - (intOf v).toNat)
      case atStart => exact ⟨1, rfl, Nat.le_refl _, Lib.hid rfl, ⟨_, rfl⟩⟩
      case round =>
        obtain ⟨k, rfl, hk, hu, ⟨m, rfl⟩⟩ := hrel
        by_cases hlt : k < es.length
        · obtain ⟨ad, e, hx⟩ := at_fl HE.out k (by omega) (by omega)
          cases e
          obtain ⟨ad2, e, hx2⟩ := at_fl HE.out ((k : Int) - 1) (by omega) (by omega)
          obtain rfl : ad = ad2 := Option.some.inj e
          clear e
          have hk1 : (k : Int).toNat = k := by omega
          have hk2 : ((k : Int) - 1).toNat = k - 1 := by omega
          have hx0 : w.cell? (ad.add k) = some (.float .f32 (es.getD k 0)) := by rw [hk1] at hx; simpa [rdOf] using hx
          have hx1 : w.cell? (ad.add (k - 1)) = some (.float .f32 (es.getD (k - 1) 0)) := by rw [hk2] at hx2; rw [hx2]; simp [rdOf, hk2]
          clear hx hx2 hk1 hk2
          have hb1 : (0 : Int) ≤ (k : Int) - 1 := by omega
          have hb2 : (k : Int) - 1 < es.length := by omega
          have hus : Hid (upFrom es (es.length - k) k = (up es k && upFrom es (es.length - (k + 1)) (k + 1))) := Lib.hid (by rw [show es.length - k = (es.length - (k + 1)) + 1 by omega]; rfl)
          have hnu := NU.out k F1.out hlt hk
          unfold notUp at hnu
          generalize es.getD k 0 = x at hx0 hnu
          generalize es.getD (k - 1) 0 = y at hx1 hnu
          cases hup : up es k with
          | false =>
            rw [hup] at hnu hus
            have hq : ((FloatKind.f32).format.order x y == some .lt || (FloatKind.f32).format.order x y == some .eq) = true := hnu
            clear hnu hup NU
            go_wp2
            go_quiet (fail)
            all_goals go_wp2
            go_ret
            exact ⟨by rw [hS.out, hu.out, hus.out]; rfl, ⟨m + nq, by rw [World.drewN_drewN]⟩⟩
          | true =>
            rw [hup] at hnu hus
            have hq : ((FloatKind.f32).format.order x y == some .lt || (FloatKind.f32).format.order x y == some .eq) = false := hnu
            clear hnu hup NU
            go_wp2
            go_quiet (fail)
            all_goals go_wp2
            go_roundw
            case rel => exact ⟨k + 1, by go_num, by omega, Lib.hid (by rw [hu.out, hus.out]; rfl), ⟨_, rfl⟩⟩
            case measure => simp [intOf]; omega
        · go_wp2
          go_ret
          exact ⟨by rw [hS.out, hu.out, show es.length - k = 0 by omega]; rfl, ⟨_, rfl⟩⟩
end Go.Proofs.YtlfgkibfhhifmaaDoor

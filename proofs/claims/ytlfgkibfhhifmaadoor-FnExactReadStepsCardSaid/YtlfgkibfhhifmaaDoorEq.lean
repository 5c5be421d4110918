/- The laws' own comparisons: a number with itself, a list with its like. -/
import Derived.Test.YtlfgkibfhhifmaaDoorWide
namespace Go.Proofs.YtlfgkibfhhifmaaDoor
open Go.RowKit Go.Proofs.YtlfgkibfhhifmaaDoorW.PrintWords Go.Proofs.YtlfgkibfhhifmaaDoorW.PrintLast Go.Proofs.YtlfgkibfhhifmaaDoorW.PrintMore
def zero64 (x : Nat) : Bool := (FloatKind.f64).format.order x 0 == some .eq
theorem nan64_order (x y z : Nat) (W : World) : (FloatKind.f64).format.order (nanOf .f64 x y W) z = none := by
  have hr : ∃ s u, Ieee.double.read (nanOf .f64 x y W) = .nan s u := by
    unfold nanOf
    have e : ∀ t, (Question.nanBits .f64 x y).cut t = t % 2 * 9223372036854775808 + 9218868437227405313 + t / 2 % 4503599627370495 := by
      intro t
      unfold Question.cut
      have e1 : (2 : Nat) ^ 63 = 9223372036854775808 := by decide
      have e2 : (2 : Nat) ^ 52 - 1 = 4503599627370495 := by decide
      simp only [e1, e2]
    rw [e]
    generalize W.tape W.drawn (.nanBits .f64 x y) = t
    unfold Ieee.Format.read
    simp only [show Ieee.double.signWeight = 9223372036854775808 from rfl, show Ieee.double.binade = 4503599627370496 from rfl, show Ieee.double.infRung = 9218868437227405312 from rfl]
    have hm : (t % 2 * 9223372036854775808 + 9218868437227405313 + t / 2 % 4503599627370495) % 9223372036854775808 = 9218868437227405313 + t / 2 % 4503599627370495 := by
      rcases Nat.mod_two_eq_zero_or_one t with h | h <;> rw [h] <;> omega
    rw [hm, if_neg (by omega), if_neg (by omega), if_neg (by omega)]
    exact ⟨_, _, rfl⟩
  obtain ⟨s, u, hr⟩ := hr
  show (Ieee.double.read _).order (Ieee.double.read z) = none
  rw [hr]
  unfold Ieee.Datum.order
  rfl
theorem run_div_nan {P : Program} (t : TypeId) (x y : Nat) (h : (FloatKind.f64).format.div x y = none) (W : World) :
    (binOp .quo t (.float .f64 x) (.float .f64 y)).run P W = .ok (.float .f64 (nanOf .f64 x y W)) W.drew := by
  simp only [binOp, Op.floatArith, h]
  rfl
/-- A number is the same as itself; two not-a-numbers are the same. -/
theorem same_nan (x y : Nat) (w : World) (hx : isNum64 x = false) (hy : isNum64 y = false) :
    Calls Tryd.prog 82 #[.float .f64 x, .float .f64 y] w fun e w' => e = .returned (.bool true) ∧ Drawn0 w w' := by
  have h1 : ((FloatKind.f64).format.order x x != some .eq) = true := by unfold isNum64 at hx; simp [bne, hx]
  have h2 : ((FloatKind.f64).format.order y y != some .eq) = true := by unfold isNum64 at hy; simp [bne, hy]
  clear hx hy
  go_enter Tryd.func82, Tryd.ntmps82
  go_wp2
  go_ret
  exact ⟨rfl, Drawn0.refl _⟩
theorem same_self (x : Nat) (w : World) (hx : isNum64 x = true) :
    Calls Tryd.prog 82 #[.float .f64 x, .float .f64 x] w fun e w' => e = .returned (.bool true) ∧ Drawn0 w w' := by
  have h1 : ((FloatKind.f64).format.order x x != some .eq) = false := by unfold isNum64 at hx; simp [bne, hx]
  have h2 : ((FloatKind.f64).format.order x x == some .eq) = true := hx
  clear hx
  cases hz : zero64 x with
  | false =>
    have h3 : ((FloatKind.f64).format.order x 0 == some .eq) = false := hz
    clear hz
    go_enter Tryd.func82, Tryd.ntmps82
    go_wp2
    go_ret
    exact ⟨by simp [*], Drawn0.refl _⟩
  | true =>
    have h3 : ((FloatKind.f64).format.order x 0 == some .eq) = true := hz
    clear hz
    cases hd : (FloatKind.f64).format.div 4607182418800017408 x with
    | none =>
      have hq := fun W => run_div_nan (P := Tryd.prog) 125 4607182418800017408 x hd W
      have hn := fun W => nan64_order 4607182418800017408 x 0 W
      clear hd
      go_enter Tryd.func82, Tryd.ntmps82
      go_wp2
      go_ret
      exact ⟨by simp [*], ⟨2, rfl⟩⟩
    | some q =>
      have hq := fun W => run_float_arith (P := Tryd.prog) W .quo 125 .f64 4607182418800017408 x q (by simpa [floatBits] using hd)
      clear hd
      go_enter Tryd.func82, Tryd.ntmps82
      go_wp2
      go_ret
      exact ⟨by simp, Drawn0.refl _⟩
set_option maxHeartbeats 8000000 in
set_option maxRecDepth 100000 in
theorem eqF32_any (A1 A2 : Option Addr) (c1 c2 : Nat) (zs : List Nat) (w : World) (h1 : Kd.C (kdFl .f32) w A1 zs.length zs) (h2 : Kd.C (kdFl .f32) w A2 zs.length zs) :
    Calls Tryd.prog 62 #[.slice A1 zs.length c1, .slice A2 zs.length c2] w fun e w' => e = .returned (.bool true) ∧ Drawn0 w w' := by
  have H1 := Aside0.mk h1
  have H2 := Aside0.mk h2
  have hlen : zs.length ≤ 9223372036854775807 := h1.2.1
  clear h1 h2
  go_enter Tryd.func62, Tryd.ntmps62
  go_wp2
  go_loopw [5] (fun v8 wr => ∃ k : Nat, v8 = .int .i64 k ∧ k ≤ zs.length ∧ Drawn0 w wr) (fun v8 _ => zs.length - (intOf v8).toNat)
  case atStart => exact ⟨0, rfl, Nat.zero_le _, Drawn0.refl _⟩
  case round =>
    obtain ⟨k, rfl, hk, ⟨m, rfl⟩⟩ := hrel
    by_cases hlt : k < zs.length
    · obtain ⟨ad, e, hx⟩ := at_fl H1.out k (by omega) (by omega)
      cases e
      obtain ⟨ad2, e, hx2⟩ := at_fl H2.out k (by omega) (by omega)
      cases e
      have hk1 : (k : Int).toNat = k := by omega
      rw [hk1] at hx hx2
      clear hk1
      generalize rdOf (0 : Nat) zs k = b at hx hx2
      cases hn : isNum32 b with
      | true =>
        obtain ⟨e1, e2⟩ := wide_some b hn
        have hcv := fun W => run_convert_float_float (P := Tryd.prog) (w := W) 32 125 .f32 .f64 b (wide b) (by kernel_rfl) Tryd.underlying125 e1
        have E2 := Lib.hid e2
        clear e1 e2 hn
        go_wp2
        go_region_with (go_at_call 82; refine (same_self _ _ E2.out).mono ?_; rintro e w' ⟨rfl, ⟨nd, rfl⟩⟩)
        all_goals go_wp2
        all_goals go_roundw
        all_goals first | exact ⟨k + 1, by go_num, by omega, ⟨_, rfl⟩⟩ | (simp [intOf]; omega)
      | false =>
        have hcv := fun W => run_wide_nan (P := Tryd.prog) 32 125 b (by kernel_rfl) Tryd.underlying125 hn W
        clear hn
        go_wp2
        go_region_with (go_at_call 82; refine (same_nan _ _ _ (nanWide_no _ _) (nanWide_no _ _)).mono ?_; rintro e w' ⟨rfl, ⟨nd, rfl⟩⟩)
        all_goals go_wp2
        all_goals go_roundw
        all_goals first | exact ⟨k + 1, by go_num, by omega, ⟨_, rfl⟩⟩ | (simp [intOf]; omega)
    · go_wp2
      go_ret
      exact ⟨rfl, ⟨m, rfl⟩⟩
end Go.Proofs.YtlfgkibfhhifmaaDoor

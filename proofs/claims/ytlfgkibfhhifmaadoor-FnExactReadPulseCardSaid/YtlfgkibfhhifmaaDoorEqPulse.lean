/- laws.eqPulse: a pulse of numbers with itself. -/
import Derived.Test.YtlfgkibfhhifmaaDoorEq
namespace Go.Proofs.YtlfgkibfhhifmaaDoor
open Go.RowKit Go.Proofs.YtlfgkibfhhifmaaDoorW.PrintWords Go.Proofs.YtlfgkibfhhifmaaDoorW.PrintLast Go.Proofs.YtlfgkibfhhifmaaDoorW.PrintMore
set_option maxRecDepth 100000 in
theorem eqPulse_any (a b c d : Nat) (w : World) (ha : isNum32 a = true) (hb : isNum32 b = true) (hc : isNum32 c = true) (hd : isNum32 d = true) :
    Calls Tryd.prog 38 #[.agg #[.float .f32 a, .float .f32 b, .float .f32 c, .float .f32 d], .agg #[.float .f32 a, .float .f32 b, .float .f32 c, .float .f32 d]] w fun e w' => e = .returned (.bool true) ∧ Below w.heap.size w w' := by
  have CV := fun (x : Nat) (hx : isNum32 x = true) (W : World) => run_convert_float_float (P := Tryd.prog) (w := W) 32 125 .f32 .f64 x (wide x) (by kernel_rfl) Tryd.underlying125 (wide_some x hx).1
  have CS := Aside0.mk (show ∀ x, isNum32 x = true → ∀ W, Calls Tryd.prog 82 #[.float .f64 (wide x), .float .f64 (wide x)] W fun e w' => e = .returned (.bool true) ∧ Drawn0 W w' from fun x hx W => same_self (wide x) W (wide_some x hx).2)
  have va := CV a ha
  have vb := CV b hb
  have vc := CV c hc
  have vd := CV d hd
  have HA := Lib.hid ha
  have HB := Lib.hid hb
  have HC := Lib.hid hc
  have HD := Lib.hid hd
  clear CV ha hb hc hd
  go_enter Tryd.func38, Tryd.ntmps38
  go_wp2_with (fail)
  (with_reducible refine (CS.out a HA.out _).mono ?_)
  rintro e w1 ⟨rfl, ⟨n1, rfl⟩⟩
  go_wp2_with (fail)
  (with_reducible refine (CS.out b HB.out _).mono ?_)
  rintro e w1 ⟨rfl, ⟨n2, rfl⟩⟩
  go_wp2_with (fail)
  (with_reducible refine (CS.out c HC.out _).mono ?_)
  rintro e w1 ⟨rfl, ⟨n3, rfl⟩⟩
  go_wp2_with (fail)
  (with_reducible refine (CS.out d HD.out _).mono ?_)
  rintro e w1 ⟨rfl, ⟨n4, rfl⟩⟩
  go_wp2
  go_ret
  exact ⟨rfl, by repeat (first | exact Below.refl _ _ | apply pw_below_drewN | apply below_alloc)⟩
end Go.Proofs.YtlfgkibfhhifmaaDoor

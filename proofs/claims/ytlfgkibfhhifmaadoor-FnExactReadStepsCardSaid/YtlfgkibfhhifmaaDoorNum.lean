/- 32-bit numbers that are finite: what 'x - x == 0' tells; numbers that are the same. -/
import Derived.Test.YtlfgkibfhhifmaaDoorFl
import Derived.WalkKit
import Derived.WalkLawsBesides
import Derived.WalkSpells
import Derived.Laws.FloatArith
import Derived.Outline
import Derived.Lib.Hide
namespace Go.Proofs.YtlfgkibfhhifmaaDoor
open Go.RowKit Go.Proofs.YtlfgkibfhhifmaaDoorW.PrintWords Go.Proofs.YtlfgkibfhhifmaaDoorW.PrintLast Go.Proofs.YtlfgkibfhhifmaaDoorW.PrintMore
/-- Neither an infinity nor a not-a-number. -/
def fin32 (b : Nat) : Bool := decide (b % 2147483648 < 2139095040)
theorem sub_self_fin (b : Nat) (h : fin32 b = true) : (FloatKind.f32).format.sub b b = some 0 := by
  have h' : b % 2147483648 < 2139095040 := by simpa [fin32] using h
  have e : ∃ s m p, Ieee.single.read b = .number s m p := by
    unfold Ieee.Format.read
    simp only [show Ieee.single.signWeight = 2147483648 from rfl, show Ieee.single.binade = 8388608 from rfl, show Ieee.single.infRung = 2139095040 from rfl]
    by_cases h2 : b % 2147483648 < 8388608
    · rw [if_pos h2]; exact ⟨_, _, _, rfl⟩
    · rw [if_neg h2, if_pos h']; exact ⟨_, _, _, rfl⟩
  obtain ⟨s, m, p, e⟩ := e
  have ht : Ieee.signed s m 0 + Ieee.signed (!s) m 0 = 0 := by
    cases s <;> simp [Ieee.signed] <;> omega
  simp only [FloatKind.format, Ieee.Format.sub, e, Ieee.Datum.opposite, Ieee.Datum.sum, Option.map_some]
  rw [show (p - min p p).toNat = 0 by omega, ht]
  cases s <;> simp [Ieee.Format.write, Ieee.Format.nearest, Ieee.Format.word]
theorem sub_self_nofin (b : Nat) (h : fin32 b = false) : (FloatKind.f32).format.sub b b = none := by
  have h' : ¬ b % 2147483648 < 2139095040 := by simpa [fin32] using h
  have e : (∃ s, Ieee.single.read b = .infinity s) ∨ ∃ s t, Ieee.single.read b = .nan s t := by
    unfold Ieee.Format.read
    simp only [show Ieee.single.signWeight = 2147483648 from rfl, show Ieee.single.binade = 8388608 from rfl, show Ieee.single.infRung = 2139095040 from rfl]
    rw [if_neg (by omega), if_neg h']
    split
    · exact .inl ⟨_, rfl⟩
    · exact .inr ⟨_, _, rfl⟩
  rcases e with ⟨s, e⟩ | ⟨s, t, e⟩
  · cases s <;> simp [FloatKind.format, Ieee.Format.sub, e, Ieee.Datum.opposite, Ieee.Datum.sum]
  · simp [FloatKind.format, Ieee.Format.sub, e, Ieee.Datum.opposite, Ieee.Datum.sum]
/-- What the tape answers where a NaN is asked for. -/
def nanOf (k : FloatKind) (x y : Nat) (W : World) : Nat := (Question.nanBits k x y).cut (W.tape W.drawn (.nanBits k x y))
theorem read_nan (b : Nat) (h : 2139095040 < b % 2147483648) : ∃ s t, Ieee.single.read b = .nan s t := by
  unfold Ieee.Format.read
  simp only [show Ieee.single.signWeight = 2147483648 from rfl, show Ieee.single.binade = 8388608 from rfl, show Ieee.single.infRung = 2139095040 from rfl]
  rw [if_neg (by omega), if_neg (by omega), if_neg (by omega)]
  exact ⟨_, _, rfl⟩
theorem cut_nan (x y t : Nat) : (Question.nanBits .f32 x y).cut t = t % 2 * 2147483648 + 2139095041 + t / 2 % 8388607 := by
  unfold Question.cut
  have e1 : (2 : Nat) ^ 31 = 2147483648 := by decide
  have e2 : (2 : Nat) ^ 23 - 1 = 8388607 := by decide
  simp only [e1, e2]
theorem nan_read (x y : Nat) (W : World) : ∃ s t, Ieee.single.read (nanOf .f32 x y W) = .nan s t := by
  unfold nanOf
  rw [cut_nan]
  generalize W.tape W.drawn (.nanBits .f32 x y) = t
  refine read_nan _ ?_
  rcases Nat.mod_two_eq_zero_or_one t with h | h <;> rw [h] <;> omega
theorem order_nan_left (b z : Nat) (h : ∃ s t, Ieee.single.read b = .nan s t) : (FloatKind.f32).format.order b z = none := by
  obtain ⟨s, t, e⟩ := h
  show (Ieee.single.read b).order (Ieee.single.read z) = none
  rw [e]
  unfold Ieee.Datum.order
  rfl
theorem nan_order (x y z : Nat) (W : World) : (FloatKind.f32).format.order (nanOf .f32 x y W) z = none := order_nan_left _ z (nan_read x y W)
theorem run_sub_nan {P : Program} (t : TypeId) (x y : Nat) (h : (FloatKind.f32).format.sub x y = none) (W : World) :
    (binOp .sub t (.float .f32 x) (.float .f32 y)).run P W = .ok (.float .f32 (nanOf .f32 x y W)) W.drew := by
  simp only [binOp, Op.floatArith, h]
  rfl
theorem zero_order : (FloatKind.f32).format.order 0 0 = some .eq := by decide +kernel
theorem finite_any (K : FuncId) (b : Nat) (w : World) (hK : K = 96 ∨ K = 131) :
    Calls Tryd.prog K #[.float .f32 b] w fun e w' => e = .returned (.bool (fin32 b)) ∧ Drawn0 w w' := by
  cases hf : fin32 b with
  | true =>
    have hs := fun W => run_float_arith (P := Tryd.prog) W .sub 32 .f32 b b 0 (by simpa [floatBits] using sub_self_fin b hf)
    have hz := zero_order
    rcases hK with rfl | rfl
    · go_enter Tryd.func96, Tryd.ntmps96
      go_wp2
      go_ret
      exact ⟨rfl, Drawn0.refl _⟩
    · go_enter Tryd.func131, Tryd.ntmps131
      go_wp2
      go_ret
      exact ⟨rfl, Drawn0.refl _⟩
  | false =>
    have hs := fun W => run_sub_nan (P := Tryd.prog) 32 b b (sub_self_nofin b hf) W
    have hz := fun W => nan_order b b 0 W
    rcases hK with rfl | rfl
    · go_enter Tryd.func96, Tryd.ntmps96
      go_wp2
      go_ret
      exact ⟨rfl, ⟨1, rfl⟩⟩
    · go_enter Tryd.func131, Tryd.ntmps131
      go_wp2
      go_ret
      exact ⟨rfl, ⟨1, rfl⟩⟩
def spec_l01Finite.f (a0 : Nat) : Option Bool := some (fin32 a0)
theorem spec_l01Finite.calls (a0 : Nat) (r : Bool) (w : World) (h : spec_l01Finite.f a0 = some r) :
    Calls Tryd.prog 96 #[.float .f32 a0] w fun e w' => e = .returned (.bool r) ∧ Drawn0 w w' := by
  obtain rfl := Option.some.inj h
  exact finite_any _ a0 w (.inl rfl)
def impl_IsFinite.f (a0 : Nat) : Option Bool := some (fin32 a0)
theorem impl_IsFinite.calls (a0 : Nat) (r : Bool) (w : World) (h : impl_IsFinite.f a0 = some r) :
    Calls Tryd.prog 131 #[.float .f32 a0] w fun e w' => e = .returned (.bool r) ∧ Drawn0 w w' := by
  obtain rfl := Option.some.inj h
  exact finite_any _ a0 w (.inr rfl)
end Go.Proofs.YtlfgkibfhhifmaaDoor

/- The eight hexadecimal digits of a number's bits: impl.BitsOf, impl.hexOf. -/
import Derived.Test.YtlfgkibfhhifmaaDoorAny
import Derived.Test.YtlfgkibfhhifmaaDoorLib
namespace Go.Proofs.YtlfgkibfhhifmaaDoor
open Go.RowKit Go.Proofs.YtlfgkibfhhifmaaDoorW.PrintWords Go.Proofs.YtlfgkibfhhifmaaDoorW.PrintLast Go.Proofs.YtlfgkibfhhifmaaDoorW.PrintMore
/-- A number's bits, all not-a-numbers told as one. -/
def isNum (b : Nat) : Bool := (FloatKind.f32).format.order b b == some .eq
def canon (b : Nat) : Nat := if isNum b then b else 2143289344
def hex8 (n : Nat) : List UInt8 := List.replicate (8 - (hexL n).length) 48 ++ hexL n
theorem hexL_len (n k : Nat) (h : n < 16 ^ (k + 1)) : (hexL n).length ≤ k + 1 := by
  induction k generalizing n with
  | zero => rw [hexL_small n (by simpa using h)]; simp
  | succ k ih =>
    rcases Nat.lt_or_ge n 16 with h16 | h16
    · rw [hexL_small n h16]; simp
    · rw [hexL_step n h16, List.length_append]
      have := ih (n / 16) (by rw [Nat.pow_succ] at h; exact Nat.div_lt_of_lt_mul (by rw [Nat.mul_comm]; exact h))
      simp; omega
theorem canon_lt (b : Nat) (h : b < 4294967296) : canon b < 4294967296 := by
  unfold canon; split <;> omega
theorem hex8_len (n : Nat) (h : n < 4294967296) : (hex8 n).length = 8 := by
  have := hexL_len n 7 (by simpa using h)
  simp [hex8]; omega
theorem BitsOf_any (b : Nat) (w : World) (hb : b < 4294967296) :
    Calls Tryd.prog 132 #[.float .f32 b] w fun e w' => e = .returned (.int .i64 (canon b)) ∧ w = w' := by
  have hbits := fun W => f32bits_run b W
  cases hn : isNum b with
  | true =>
    have h1 : ((FloatKind.f32).format.order b b != some .eq) = false := by
      have h2 : ((FloatKind.f32).format.order b b == some .eq) = true := hn
      simp [bne, h2]
    have hc : Hid (canon b = b) := by show canon b = b; unfold canon; rw [if_pos hn]
    clear hn
    go_enter Tryd.func132, Tryd.ntmps132
    go_wp2
    go_ret
    exact ⟨by rw [hc.out]; rfl, rfl⟩
  | false =>
    have h1 : ((FloatKind.f32).format.order b b != some .eq) = true := by
      have h2 : ((FloatKind.f32).format.order b b == some .eq) = false := hn
      simp [bne, h2]
    have hc : Hid (canon b = 2143289344) := by show canon b = 2143289344; unfold canon; rw [hn]; rfl
    clear hn
    go_enter Tryd.func132, Tryd.ntmps132
    go_wp2
    go_ret
    exact ⟨by rw [hc.out]; rfl, rfl⟩
def impl_BitsOf.f (a0 : Nat) : Option Int := if a0 < 4294967296 then some (canon a0 : Int) else none
theorem impl_BitsOf.calls (a0 : Nat) (r : Int) (w : World) (h : impl_BitsOf.f a0 = some r) :
    Calls Tryd.prog 132 #[.float .f32 a0] w fun e w' => e = .returned (.int .i64 r) ∧ Drawn0 w w' := by
  unfold impl_BitsOf.f at h
  split at h
  case isFalse => cases h
  obtain rfl := Option.some.inj h
  exact (BitsOf_any a0 w ‹_›).mono fun e w' ⟨he, hw⟩ => ⟨he, hw ▸ Drawn0.refl _⟩
theorem bytes_cat (a b : List UInt8) : (⟨a.toArray⟩ : ByteArray) ++ ⟨b.toArray⟩ = ⟨(a ++ b).toArray⟩ := by
  have e : ((⟨a.toArray⟩ : ByteArray) ++ ⟨b.toArray⟩).data = (⟨(a ++ b).toArray⟩ : ByteArray).data := by simp
  exact congrArg ByteArray.mk e
theorem rep_one (c : UInt8) (n : Nat) : Lib.repeatL [c] n = List.replicate n c := by
  induction n with
  | zero => rfl
  | succ n ih => rw [Lib.repeatL, ih]; rfl
theorem hexOf_any (b : Nat) (w : World) (hb : b < 4294967296) (hG : GW w) :
    Calls Tryd.prog 99 #[.float .f32 b] w fun e w' => e = .returned (.string ⟨(hex8 (canon b)).toArray⟩) ∧ Below w.heap.size w w' := by
  have hc := canon_lt b hb
  have hl := hexL_len (canon b) 7 (by simpa using hc)
  go_enter Tryd.func99, Tryd.ntmps99
  go_wp2_with (fail)
  refine (BitsOf_any b _ hb).mono ?_
  rintro e w' ⟨rfl, rfl⟩
  go_wp2_with (fail)
  refine (FormatInt_hex (canon b) (by omega) _ hG).mono ?_
  rintro e w1 ⟨rfl, hb1⟩
  go_wp2_with (fail)
  have hrep : strings_Repeat.f (⟨#[48]⟩ : ByteArray) (8 - ((hexL (canon b)).length : Int)) = some ⟨(List.replicate (8 - (hexL (canon b)).length) 48).toArray⟩ := by
    unfold strings_Repeat.f
    have e : (8 - ((hexL (canon b)).length : Int)).toNat = 8 - (hexL (canon b)).length := by omega
    rw [if_pos ⟨by omega, by omega, by rw [e]; show 1 * _ ≤ _; omega⟩, e]
    simp [rep_one]
  refine (strings_Repeat.calls _ _ _ _ hrep).mono ?_
  rintro e w2 ⟨rfl, hb2⟩
  clear hrep hc
  go_wp2
  go_ret
  refine ⟨?_, below_then hb1 hb1.size hb2⟩
  have e : (⟨Array.replicate (8 - (hexL (canon b)).length) 48⟩ : ByteArray) ++ ⟨(hexL (canon b)).toArray⟩ = ⟨(hex8 (canon b)).toArray⟩ := by
    rw [← List.toArray_replicate, bytes_cat]; rfl
  simpa [hex8] using e
def impl_hexOf.f (a0 : Nat) : Option ByteArray := if a0 < 4294967296 then some ⟨(hex8 (canon a0)).toArray⟩ else none
theorem impl_hexOf.calls (a0 : Nat) (r : ByteArray) (w : World) (hG : GW w) (h : impl_hexOf.f a0 = some r) :
    Calls Tryd.prog 99 #[.float .f32 a0] w fun e w' => e = .returned (.string r) ∧ Below w.heap.size w w' := by
  unfold impl_hexOf.f at h
  split at h
  case isFalse => cases h
  obtain rfl := Option.some.inj h
  exact hexOf_any a0 w ‹_› hG
end Go.Proofs.YtlfgkibfhhifmaaDoor

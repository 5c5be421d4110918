/- float64(x) of a 32-bit number; the laws' own comparison of two numbers. -/
import Derived.Test.YtlfgkibfhhifmaaDoorNum
import Derived.Laws.FloatBits
namespace Go.Proofs.YtlfgkibfhhifmaaDoor
open Go.RowKit Go.Proofs.YtlfgkibfhhifmaaDoorW.PrintWords Go.Proofs.YtlfgkibfhhifmaaDoorW.PrintLast Go.Proofs.YtlfgkibfhhifmaaDoorW.PrintMore
theorem read_num32 (b s m p) (h : Ieee.single.read b = .number s m p) : m < 16777216 ∧ p ≤ 104 ∧ -149 ≤ p := by
  unfold Ieee.Format.read at h
  simp only [show Ieee.single.signWeight = 2147483648 from rfl, show Ieee.single.binade = 8388608 from rfl, show Ieee.single.infRung = 2139095040 from rfl, show Ieee.single.leastPlace = -149 from rfl] at h
  split at h
  · injection h with h1 h2 h3; omega
  · split at h
    · injection h with h1 h2 h3; omega
    · split at h <;> cases h
theorem cut_zero (s : Bool) (n : Nat) : Ieee.Toward.even.cut s n 0 = n := by
  unfold Ieee.Toward.cut
  simp [Nat.mod_one]
theorem wide_rung (s : Bool) (m : Nat) (p : Int) (hm : m < 16777216) (hp : p ≤ 104) (hp2 : -149 ≤ p) :
    ∃ r, r < 2047 * 4503599627370496 ∧ Ieee.double.nearest s m p = Ieee.double.word s r := by
  by_cases h0 : m = 0
  · exact ⟨0, by omega, by simp [Ieee.Format.nearest, h0]⟩
  · have hlog : m.log2 ≤ 23 := by
      have := (Nat.log2_lt h0 (k := 24)).2 (by omega)
      omega
    have hl2 : m < 2 ^ (m.log2 + 1) := Nat.lt_log2_self
    generalize hl : m.log2 = l at *
    have hk : m <<< (52 - l) < 9007199254740992 := by
      rw [Nat.shiftLeft_eq]
      calc m * 2 ^ (52 - l) < 2 ^ (l + 1) * 2 ^ (52 - l) := Nat.mul_lt_mul_of_pos_right hl2 (Nat.two_pow_pos _)
        _ = 9007199254740992 := by rw [← Nat.pow_add, show l + 1 + (52 - l) = 53 by omega]
    refine ⟨(p + (l : Int) - 52 + 1074).toNat * 4503599627370496 + m <<< (52 - l), by omega, ?_⟩
    unfold Ieee.Format.nearest
    rw [if_neg h0]
    simp only [show Ieee.double.infRung = 2047 * 4503599627370496 from rfl, show Ieee.double.binade = 4503599627370496 from rfl, show Ieee.double.leastPlace = -1074 from rfl, show Ieee.double.fractionBits = 52 from rfl, hl]
    rw [show max (p + (l : Int) - ((52 : Nat) : Int)) (-1074) = p + l - 52 by omega]
    rw [show (p - (p + (l : Int) - 52)).toNat = 52 - l by omega, show ((p + (l : Int) - 52) - p).toNat = 0 by omega, cut_zero]
    congr 1
    rw [Nat.min_eq_left (by omega)]
    congr 3
theorem read_word64 (s : Bool) (r : Nat) (h : r < 2047 * 4503599627370496) : ∃ m p, Ieee.double.read (Ieee.double.word s r) = .number s m p := by
  have e1 : Ieee.double.word s r % 9223372036854775808 = r := by
    unfold Ieee.Format.word
    simp only [show Ieee.double.signWeight = 9223372036854775808 from rfl]
    cases s <;> simp <;> omega
  have e2 : (Ieee.double.word s r / 9223372036854775808 % 2 == 1) = s := by
    unfold Ieee.Format.word
    simp only [show Ieee.double.signWeight = 9223372036854775808 from rfl]
    cases s
    · simp; omega
    · simp; omega
  unfold Ieee.Format.read
  simp only [show Ieee.double.signWeight = 9223372036854775808 from rfl, show Ieee.double.binade = 4503599627370496 from rfl, show Ieee.double.infRung = 2047 * 4503599627370496 from rfl, e1, e2]
  split
  · exact ⟨_, _, rfl⟩
  · exact ⟨_, _, rfl⟩
/-- Not a not-a-number: its order with itself is 'equal'. -/
def isNum64 (b : Nat) : Bool := (FloatKind.f64).format.order b b == some .eq
def wide (b : Nat) : Nat := Ieee.double.write (Ieee.single.read b)
/-- The same for 32 bits. -/
def isNum32 (b : Nat) : Bool := (FloatKind.f32).format.order b b == some .eq
theorem wide_some (b : Nat) (h : isNum32 b = true) : floatToFloatBits .f32 b .f64 = some (wide b) ∧ isNum64 (wide b) = true := by
  have hi : ∀ s, Ieee.double.read (Ieee.double.word s Ieee.double.infRung) = .infinity s := by intro s; cases s <;> decide +kernel
  unfold isNum32 at h
  unfold floatToFloatBits wide isNum64
  rw [if_neg (by decide)]
  show (match Ieee.single.read b with | .nan _ _ => none | .infinity s => some (Ieee.double.write (.infinity s)) | .number s m e => if (Ieee.double.read (Ieee.double.write (.number s m e))).isInfinity then none else some (Ieee.double.write (.number s m e))) = _ ∧ ((Ieee.double.read (Ieee.double.write (Ieee.single.read b))).order (Ieee.double.read (Ieee.double.write (Ieee.single.read b))) == some .eq) = true
  cases hr : Ieee.single.read b with
  | nan s t =>
    have : (FloatKind.f32).format.order b b = none := order_nan_left b b ⟨s, t, hr⟩
    rw [this] at h
    cases h
  | infinity s =>
    refine ⟨rfl, ?_⟩
    show ((Ieee.double.read (Ieee.double.word s Ieee.double.infRung)).order (Ieee.double.read (Ieee.double.word s Ieee.double.infRung)) == some .eq) = true
    rw [hi]
    cases s <;> rfl
  | number s m p =>
    obtain ⟨h1, h2, h3⟩ := read_num32 b s m p hr
    obtain ⟨r, hr1, hr2⟩ := wide_rung s m p h1 h2 h3
    have hw : Ieee.double.write (.number s m p) = Ieee.double.word s r := hr2
    obtain ⟨m2, p2, hrd⟩ := read_word64 s r hr1
    simp only [hw, hrd]
    refine ⟨rfl, ?_⟩
    simp [Ieee.Datum.order, compare, compareOfLessAndEq]
/-- What the tape answers where a not-a-number is widened. -/
def nanWide (b : Nat) (W : World) : Nat := (Question.nanConv .f64 b).cut (W.tape W.drawn (.nanConv .f64 b))
theorem read_nan_of (b : Nat) (h : isNum32 b = false) : ∃ s t, Ieee.single.read b = .nan s t := by
  unfold isNum32 at h
  cases hr : Ieee.single.read b with
  | nan s t => exact ⟨s, t, rfl⟩
  | infinity s =>
    have : (FloatKind.f32).format.order b b = some .eq := by
      show (Ieee.single.read b).order (Ieee.single.read b) = _
      rw [hr]; cases s <;> rfl
    rw [this] at h; cases h
  | number s m p =>
    have : (FloatKind.f32).format.order b b = some .eq := by
      show (Ieee.single.read b).order (Ieee.single.read b) = _
      rw [hr]; simp [Ieee.Datum.order, compare, compareOfLessAndEq]
    rw [this] at h; cases h
theorem nanWide_no (b : Nat) (W : World) : isNum64 (nanWide b W) = false := by
  unfold isNum64 nanWide
  have e : ∀ t, (Question.nanConv .f64 b).cut t = t % 2 * 9223372036854775808 + 9218868437227405313 + t / 2 % 4503599627370495 := by
    intro t
    unfold Question.cut
    have e1 : (2 : Nat) ^ 63 = 9223372036854775808 := by decide
    have e2 : (2 : Nat) ^ 52 - 1 = 4503599627370495 := by decide
    simp only [e1, e2]
  rw [e]
  generalize W.tape W.drawn (.nanConv .f64 b) = t
  have hr : ∃ s u, Ieee.double.read (t % 2 * 9223372036854775808 + 9218868437227405313 + t / 2 % 4503599627370495) = .nan s u := by
    unfold Ieee.Format.read
    simp only [show Ieee.double.signWeight = 9223372036854775808 from rfl, show Ieee.double.binade = 4503599627370496 from rfl, show Ieee.double.infRung = 9218868437227405312 from rfl]
    have hm : (t % 2 * 9223372036854775808 + 9218868437227405313 + t / 2 % 4503599627370495) % 9223372036854775808 = 9218868437227405313 + t / 2 % 4503599627370495 := by
      rcases Nat.mod_two_eq_zero_or_one t with h | h <;> rw [h] <;> omega
    rw [hm, if_neg (by omega), if_neg (by omega), if_neg (by omega)]
    exact ⟨_, _, rfl⟩
  obtain ⟨s, u, hr⟩ := hr
  show ((Ieee.double.read _).order (Ieee.double.read _) == some .eq) = false
  rw [hr]
  rfl
theorem run_wide_nan {P : Program} (src dst : TypeId) (b : Nat) (hs : (P.underlying src).isSome = true) (hd : P.underlying dst = some (.float .f64)) (h : isNum32 b = false) (W : World) :
    (convert src dst (.float .f32 b)).run P W = .ok (.float .f64 (nanWide b W)) W.drew := by
  obtain ⟨u, hs'⟩ := Option.isSome_iff_exists.1 hs
  obtain ⟨s, t, hr⟩ := read_nan_of b h
  have hd2 : FloatKind.f32.decode b = .nan s t := hr
  cases u <;> simp [convert, run_underlying hs', run_underlying hd, Conv.floatToFloat, hd2] <;> rfl
end Go.Proofs.YtlfgkibfhhifmaaDoor

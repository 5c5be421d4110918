/- strings.Cut, impl.CheckOf, impl.Decimal in the form in which printed texts call them. -/
import Derived.Test.YtlfgkibfhhifmaaDoorLines
namespace Go.Proofs.YtlfgkibfhhifmaaDoor
open Go.RowKit Go.Proofs.YtlfgkibfhhifmaaDoorW.PrintWords Go.Proofs.YtlfgkibfhhifmaaDoorW.PrintLast Go.Proofs.YtlfgkibfhhifmaaDoorW.PrintMore
def strings_Cut.f (a0 a1 : ByteArray) : Option (ByteArray × ByteArray × Bool) := if a1.size = 1 ∧ a0.size < 4611686018427387904 then some (strB (before (a1.data.toList.headD 0) a0.data.toList), strB (after (a1.data.toList.headD 0) a0.data.toList), hasB (a1.data.toList.headD 0) a0.data.toList) else none
theorem strings_Cut.calls (a0 a1 : ByteArray) (r1 r2 : ByteArray) (r3 : Bool) (w : World) (h : strings_Cut.f a0 a1 = some (r1, r2, r3)) :
    Calls Tryd.prog 51 #[.string a0, .string a1] w fun e w' => e = .returned (.tuple #[.string r1, .string r2, .bool r3]) ∧ Drawn0 w w' := by
  unfold strings_Cut.f at h
  split at h
  case isFalse => cases h
  rename_i hc
  have h1 := Option.some.inj h
  obtain ⟨rfl, h2⟩ := Prod.mk.inj h1
  obtain ⟨rfl, rfl⟩ := Prod.mk.inj h2
  have e := one_byte a1 hc.1
  generalize a1.data.toList.headD 0 = c at e
  subst e
  have hl : a0.data.toList.length = a0.size := Array.length_toList
  have := Cut_one a0.data.toList c w (by omega)
  rw [strB_self] at this
  exact this
def impl_CheckOf.f (a0 : Int) (a1 : ByteArray) : Option (Int × Bool) := if 0 ≤ a0 ∧ a0 < 65003 ∧ a1.size < 4611686018427387904 then some (((chk a0.toNat a1.data.toList : Nat) : Int), true) else none
theorem impl_CheckOf.calls (a0 : Int) (a1 : ByteArray) (r1 : Int) (r2 : Bool) (w : World) (h : impl_CheckOf.f a0 a1 = some (r1, r2)) :
    Calls Tryd.prog 45 #[.int .i64 a0, .string a1] w fun e w' => e = .returned (.tuple #[.int .i64 r1, .bool r2]) ∧ Drawn0 w w' := by
  unfold impl_CheckOf.f at h
  split at h
  case isFalse => cases h
  rename_i hc
  obtain ⟨rfl, rfl⟩ := Prod.mk.inj (Option.some.inj h)
  obtain ⟨n, rfl⟩ := Int.eq_ofNat_of_zero_le hc.1
  have hl : a1.data.toList.length = a1.size := Array.length_toList
  have := impl_chk a1.data.toList n 0 (by omega) (by omega)
  rw [strB_self] at this
  exact PDec.impl_CheckOf.calls _ _ a1 _ _ w this
def impl_Decimal.f (a0 : Int) : Option ByteArray := if 0 ≤ a0 ∧ a0 < 65003 then some (strB (Lib.itoa a0)) else none
theorem impl_Decimal.calls (a0 : Int) (r : ByteArray) (w : World) (hG : GW w) (h : impl_Decimal.f a0 = some r) :
    Calls Tryd.prog 47 #[.int .i64 a0] w fun e w' => e = .returned (.string r) ∧ Below w.heap.size w w' := by
  unfold impl_Decimal.f at h
  split at h
  case isFalse => cases h
  rename_i hc
  obtain rfl := Option.some.inj h
  obtain ⟨n, rfl⟩ := Int.eq_ofNat_of_zero_le hc.1
  exact PDec.impl_Decimal.calls _ _ w hG (impl_dec n (by omega))
end Go.Proofs.YtlfgkibfhhifmaaDoor

/- What the rows of this seat have in common. -/
import Derived.Test.YtlfgkibfhhifmaaDoorRows
import Derived.Test.YtlfgkibfhhifmaaDoorFl
import Derived.ProofKit
import Derived.LaidMore
import Derived.OpenShut
import Derived.ShutString
import Derived.ChangeOld
import Derived.Below
import Derived.Carry
import Derived.Stop.Joined
import Derived.Stop.LaidErr
import Derived.Laws.Cover2
import Derived.Lib.SmallJoins
import Derived.Lib.ItoaNum
import Derived.MakeChecks
namespace Go.Proofs.YtlfgkibfhhifmaaDoor
open Go.ChangeShapes Go.WideShapes Go.ChangeAt Go.RowKit
theorem own : ownKnob Tryd.prog.godebug = none := by kernel_rfl
theorem laidOut : laidOutB Tryd.prog = true := by kernel_rfl
def db64 : List Int := [0, 1, 56, 2, 57, 49, 28, 3, 61, 58, 42, 50, 38, 29, 17, 4, 62, 47, 59, 36, 45, 43, 51, 22, 53, 39, 33, 30, 24, 18, 12, 5, 63, 55, 48, 27, 60, 41, 37, 16, 46, 35, 44, 21, 52, 32, 23, 11, 54, 26, 40, 15, 34, 20, 31, 10, 25, 14, 19, 9, 13, 8, 7, 6]
theorem gw_of_laid {x : String × DataW Unit} {rest : List (String × DataW Unit)} {W : World} (h : laidMet Tryd.prog (x :: ("math/bits.deBruijn64tab", Rows.laid_math_bits_deBruijn64tab) :: ("internal/strconv.uint64pow10", Rows.laid_internal_strconv_uint64pow10) :: rest) W) : GW W := by
  have h1 := h.tail
  have h2 := h1.tail
  have e1 : (Rows.laid_math_bits_deBruijn64tab : DataW Unit) = Lib.tabData .u8 db64 := rfl
  have e2 : (Rows.laid_internal_strconv_uint64pow10 : DataW Unit) = Lib.tabData .u64 Lib.pow10Tab := by kernel_rfl
  rw [e1] at h1
  rw [e2] at h2
  refine ⟨Lib.tabIs_of_head (g := 2) (by kernel_rfl) (by kernel_rfl) Tryd.underlying208 Tryd.underlying139 (by kernel_rfl) (by kernel_rfl) h2, ?_⟩
  have h3 := Lib.tabIs_of_head (g := 8) (by kernel_rfl) (by kernel_rfl) Tryd.underlying234 Tryd.underlying5 (by kernel_rfl) (by kernel_rfl) h1
  exact h3.cell (g := 8) (by kernel_rfl) 15 (by decide)
theorem trod_fl {H : Type} {enc : TypeId × Value → H} {P : Program} {w : World} {base : Nat} {spare : Nat → Bool} {held : Bool} {n : Nat} {t : TypeId} {k : FloatKind} {v : Value} {y : DataW H × List MemPlace} (ht : P.underlying t = some (.float k)) (h : DataW.trod enc P w base spare held n t [v] = some y) :
    ∃ b, v = .float k b ∧ (Lit.float k b).wf = true := by
  cases n with
  | zero => simp [DataW.trod] at h
  | succ n =>
    cases v with
    | float k2 b =>
      simp only [DataW.trod, ht] at h
      by_cases hw : k2 = k ∧ (Lit.float k b).wf = true
      · exact ⟨b, by rw [hw.1], hw.2⟩
      · rw [if_neg hw] at h; cases h
    | _ => simp [DataW.trod, ht] at h
theorem lt_of_wf {b : Nat} (h : (Lit.float .f32 b).wf = true) : b < 4294967296 := by simpa [Lit.wf] using h
end Go.Proofs.YtlfgkibfhhifmaaDoor

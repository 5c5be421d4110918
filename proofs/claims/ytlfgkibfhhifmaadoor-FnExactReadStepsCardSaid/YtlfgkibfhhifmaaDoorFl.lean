/- Floats and complex numbers as scalars of a row; the facts on the library's tables that are handed down. -/
import Derived.Test.YtlfgkibfhhifmaaDoorProg
import Derived.Test.YtlfgkibfhhifmaaDoorWFoot
import Derived.Test.YtlfgkibfhhifmaaDoorWWords
import Derived.Test.YtlfgkibfhhifmaaDoorWLast
import Derived.Test.YtlfgkibfhhifmaaDoorWMore
import Derived.Lib.LaidTab
import Derived.Lib.AppendIntMem
import Derived.Laws.Externs
import Derived.KernelRfl
namespace Go.Proofs.YtlfgkibfhhifmaaDoor
open Go.RowKit Go.Proofs.YtlfgkibfhhifmaaDoorW.PrintWords Go.Proofs.YtlfgkibfhhifmaaDoorW.PrintLast Go.Proofs.YtlfgkibfhhifmaaDoorW.PrintMore
def kdFl (k : FloatKind) : Kd Nat := Kd.scalar (Value.float k) (fun _ => rfl)
def cxV (k : FloatKind) (z : Nat × Nat) : Value := .complex k z.1 z.2
def kdCx (k : FloatKind) : Kd (Nat × Nat) := Kd.scalar (cxV k) (fun _ => rfl)
theorem heapFl (k : FloatKind) : Kd.Heap (kdFl k) := ⟨fun _ h => h⟩
theorem heapCx (k : FloatKind) : Kd.Heap (kdCx k) := ⟨fun _ h => h⟩
theorem at_fl {w : World} {A : Option Addr} {n : Nat} {k : FloatKind} {xs : List Nat} (h : (kdFl k).C w A n xs) (i : Int) (h0 : 0 ≤ i) (h1 : i < n) : ∃ ad, A = some ad ∧ w.cell? (ad.add i.toNat) = some (.float k (rdOf (0 : Nat) xs i)) :=
  ReadsOf.at_ (Kd.reads_of_C (enc := Value.float k) (d := (0 : Nat)) (h1 := fun _ => rfl) h) i h0 h1
theorem at_cx {w : World} {A : Option Addr} {n : Nat} {k : FloatKind} {xs : List (Nat × Nat)} (h : (kdCx k).C w A n xs) (i : Int) (h0 : 0 ≤ i) (h1 : i < n) : ∃ ad, A = some ad ∧ w.cell? (ad.add i.toNat) = some (.complex k (rdOf ((0, 0) : Nat × Nat) xs i).1 (rdOf ((0, 0) : Nat × Nat) xs i).2) :=
  ReadsOf.at_ (Kd.reads_of_C (enc := cxV k) (d := ((0, 0) : Nat × Nat)) (h1 := fun _ => rfl) h) i h0 h1
theorem run_store_float {P : Program} (w : World) (a : Addr) (m : Mode) (k : FloatKind) (b : Nat) : (store a (.float k b) m).run P w = stored P w a (.float k b) m := run_store P w a _ m rfl
theorem run_store_complex {P : Program} (w : World) (a : Addr) (m : Mode) (k : FloatKind) (b c : Nat) : (store a (.complex k b c) m).run P w = stored P w a (.complex k b c) m := run_store P w a _ m rfl
/-- What the call may take for granted of the library's tables. -/
structure GW (w : World) : Prop where
  pow10 : Lib.TabIs Tryd.prog w "internal/strconv.uint64pow10" .u64 Lib.pow10Tab
  db16 : w.cell? ⟨8, 15, none⟩ = some (.int .u8 4)
theorem GW.below {w w' : World} (h : GW w) (hb : Below w.heap.size w w') : GW w' :=
  ⟨Lib.tabBelow_of_tabIs h.pow10 w' hb, (hb.cell (World.block_lt_of_cell? w _ h.db16)).trans h.db16⟩
theorem below_drewN0 (w : World) (n : Nat) : Below w.heap.size w (w.drewN n) := pw_below_drewN (Below.refl _ _) n
theorem GW.drewN {w : World} (h : GW w) (n : Nat) : GW (w.drewN n) := h.below (below_drewN0 w n)
theorem f32bits_run (b : Nat) (w : World) : (callFunc 165 #[.float .f32 b]).run Tryd.prog w = .ok (.value (.int .u32 (b : Int))) w := by
  rw [run_callFunc_extern Tryd.func165 (e := Extern.MathFloatBits.float32bits) (by kernel_rfl) (by kernel_rfl) (by kernel_rfl) (by kernel_rfl)]; rfl
theorem f32from_run (n : Int) (w : World) : (callFunc 155 #[.int .u32 n]).run Tryd.prog w = .ok (.value (.float .f32 n.toNat)) w := by
  rw [run_callFunc_extern Tryd.func155 (e := Extern.MathFloatBits.float32frombits) (by kernel_rfl) (by kernel_rfl) (by kernel_rfl) (by kernel_rfl)]; rfl
end Go.Proofs.YtlfgkibfhhifmaaDoor

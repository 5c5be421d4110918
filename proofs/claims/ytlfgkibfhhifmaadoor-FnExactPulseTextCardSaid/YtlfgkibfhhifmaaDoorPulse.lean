/- The text of a pulse: the reference's functions. -/
import Derived.Test.YtlfgkibfhhifmaaDoorPTxtx1
import Derived.Test.YtlfgkibfhhifmaaDoorPTxtx2
import Derived.StillTailTactics
import Derived.Deep.RegionHeld3
namespace Go.Proofs.YtlfgkibfhhifmaaDoor
open Go.RowKit Go.Proofs.YtlfgkibfhhifmaaDoorW.PrintWords Go.Proofs.YtlfgkibfhhifmaaDoorW.PrintLast Go.Proofs.YtlfgkibfhhifmaaDoorW.PrintMore Go.Proofs.YtlfgkibfhhifmaaDoor.PTxt
theorem C_lit (k : FloatKind) (xs : List Nat) (w : World) (e : TypeId) (h : xs.length ≤ 9223372036854775807) : Kd.C (kdFl k) (w.alloc (.cells (xs.map (Value.float k)).toArray e)) (some ⟨w.heap.size, 0, none⟩) xs.length xs := by
  refine Kd.C_of_reads (d := (0 : Nat)) ⟨rfl, h, fun _ => ⟨_, rfl, fun j hj => ?_⟩⟩
  rw [add_plain]
  have h1 := heap_alloc_new w (.cells (xs.map (Value.float k)).toArray e)
  unfold World.cell?
  rw [h1]
  simp [List.getElem?_eq_getElem hj, List.getD_eq_getElem?_getD]
set_option maxRecDepth 100000 in
theorem l08Pulse_any (g a b c d : Nat) (k : Nat) (r : ByteArray) (w : World) (hb : w.heap[g]? = some (.cells #[.float .f32 a, .float .f32 b, .float .f32 c, .float .f32 d] 36 (0, 0))) (h : spec_l01NText.f k [a, b, c, d] = some r) :
    Calls Tryd.prog 54 #[.pointer (some ⟨g, 0, none⟩)] w fun e w' => e = .returned (.string r) ∧ Below w.heap.size w w' := by
  have c0 : w.cell? ⟨g, 0, none⟩ = some (.float .f32 a) := by simp [World.cell?, hb]
  have c1 : w.cell? ⟨g, 1, none⟩ = some (.float .f32 b) := by simp [World.cell?, hb]
  have c2 : w.cell? ⟨g, 2, none⟩ = some (.float .f32 c) := by simp [World.cell?, hb]
  have c3 : w.cell? ⟨g, 3, none⟩ = some (.float .f32 d) := by simp [World.cell?, hb]
  have HH := Lib.hid h
  clear h hb
  go_enter Tryd.func54, Tryd.ntmps54
  go_wp2_with (fail)
  go_still_tail 16, (by kernel_rfl)
  change wpList _ _ _ _ _ w.drew
  have hb0 : Below w.heap.size w w.drew := below_drew (Below.refl _ _)
  generalize w.drew = w2 at hb0 ⊢
  go_wp2_with (fail)
  refine (spec_l01NText.calls k _ 4 [a, b, c, d] r _ (C_lit .f32 [a, b, c, d] w2 32 (by simp)) (by simp) HH.out).mono ?_
  rintro e w3 ⟨rfl, hb3⟩
  go_wp2
  go_ret
  exact ⟨rfl, below_then (below_then hb0 hb0.size (below_alloc (Below.refl _ _) _)) (by have := hb0.size; simp; omega) hb3⟩
set_option maxRecDepth 100000 in
theorem PulseText_any (a b c d : Nat) (k : Nat) (v : Bool) (r2 r3 r4 r5 : Nat) (r : ByteArray) (w : World) (hv : spec_l04Is.f a b c d = some (v, r2, r3, r4, r5)) (h : v = true → spec_l01NText.f k [r2, r3, r4, r5] = some r) :
    Calls Tryd.prog 19 #[.agg #[.float .f32 a, .float .f32 b, .float .f32 c, .float .f32 d]] w fun e w' => e = .returned (.tuple #[.string (if v then r else ⟨#[]⟩), .bool v]) ∧ Below w.heap.size w w' := by
  have HV := Lib.hid hv
  have HH := Lib.hid h
  clear h hv
  go_enter Tryd.func19, Tryd.ntmps19
  go_wp2_with (fail)
  refine (spec_l04Is.calls w.heap.size a b c d v r2 r3 r4 r5 w _ ⟨heap_alloc_new w _, Nat.le_refl _⟩ (below_alloc (Below.refl _ _) _) HV.out).mono ?_
  rintro e w1 ⟨rfl, hI, hb1, _⟩
  cases v with
  | false =>
    go_wp2
    go_ret2
    exact ⟨rfl, hb1⟩
  | true =>
    go_wp2_with (fail)
    refine (l08Pulse_any w.heap.size r2 r3 r4 r5 k r _ hI.1 (HH.out trivial)).mono ?_
    rintro e w2 ⟨rfl, hb2⟩
    go_wp2
    go_ret2
    exact ⟨rfl, below_then hb1 hb1.size hb2⟩
end Go.Proofs.YtlfgkibfhhifmaaDoor

/- FnExactPulseText: the walk, and the law. -/
import Derived.Test.YtlfgkibfhhifmaaDoorPulse
import Derived.Test.YtlfgkibfhhifmaaDoorText
namespace Go.Proofs.YtlfgkibfhhifmaaDoor
open Go.RowKit Go.Proofs.YtlfgkibfhhifmaaDoorW.PrintWords Go.Proofs.YtlfgkibfhhifmaaDoorW.PrintLast Go.Proofs.YtlfgkibfhhifmaaDoorW.PrintMore Go.Proofs.YtlfgkibfhhifmaaDoor.PTxt
def ge0 (b : Nat) : Bool := ((FloatKind.f32).format.order b 0 == some .gt || (FloatKind.f32).format.order b 0 == some .eq)
def pulseOk (a b c d : Nat) : Bool := fin32 a && ge0 a && fin32 b && fin32 c && fin32 d && ge0 d
theorem spec_Is (a b c d : Nat) : spec_l04Is.f a b c d = some (pulseOk a b c d, a, b, c, d) := by
  unfold spec_l04Is.f spec_l02Least.f spec_l01Finite.f pulseOk ge0
  generalize ((FloatKind.f32).format.order a 0 == some .gt || (FloatKind.f32).format.order a 0 == some .eq) = x
  generalize ((FloatKind.f32).format.order d 0 == some .gt || (FloatKind.f32).format.order d 0 == some .eq) = y
  generalize fin32 a = p
  generalize fin32 b = q
  generalize fin32 c = r
  generalize fin32 d = s
  cases p <;> cases q <;> cases r <;> cases s <;> cases x <;> cases y <;> rfl
theorem impl_Is (a b c d : Nat) : impl_ValidPulse.f a b c d = some (pulseOk a b c d) := by
  unfold impl_ValidPulse.f impl_areFinite.f pulseOk ge0
  simp only [List.any_cons, List.any_nil, noFin]
  generalize ((FloatKind.f32).format.order a 0 == some .gt || (FloatKind.f32).format.order a 0 == some .eq) = x
  generalize ((FloatKind.f32).format.order d 0 == some .gt || (FloatKind.f32).format.order d 0 == some .eq) = y
  generalize fin32 a = p
  generalize fin32 b = q
  generalize fin32 c = r
  generalize fin32 d = s
  cases p <;> cases q <;> cases r <;> cases s <;> cases x <;> cases y <;> rfl
theorem impl_PText (a b c d : Nat) (ha : a < 4294967296) (hb : b < 4294967296) (hc : c < 4294967296) (hd : d < 4294967296) :
    impl_PulseText.f 5 a b c d = some (if pulseOk a b c d then strB (numsL [a, b, c, d]) else ⟨#[]⟩, pulseOk a b c d) := by
  unfold impl_PulseText.f
  rw [impl_Is]
  have h := impl_NText [a, b, c, d] 0 (by simp; omega) (by simp)
  cases hv : pulseOk a b c d with
  | false => rfl
  | true =>
    simp only [Option.bind_some, if_true]
    rw [show (5 : Nat) = 0 + [a, b, c, d].length + 1 from rfl, h]
    rfl
theorem PulseText_said (a b c d : Nat) (k : Nat) (v : Bool) (r s : ByteArray) (hs : (if v = true then r else ⟨#[]⟩) = s) (w : World) (hv : spec_l04Is.f a b c d = some (v, a, b, c, d)) (h : spec_l01NText.f k [a, b, c, d] = some r) :
    Calls Tryd.prog 19 #[.agg #[.float .f32 a, .float .f32 b, .float .f32 c, .float .f32 d]] w fun e w' => e = .returned (.tuple #[.string s, .bool v]) ∧ Below w.heap.size w w' :=
  (PulseText_any a b c d k v a b c d r w hv fun _ => h).mono fun _ _ hh => hs ▸ hh
set_option maxRecDepth 100000 in
theorem fnPulseText_any (a b c d : Nat) (ha : a < 4294967296) (hb : b < 4294967296) (hc : c < 4294967296) (hd : d < 4294967296) (w : World) (hG : GW w) :
    Calls Tryd.prog 5 #[.agg #[.float .f32 a, .float .f32 b, .float .f32 c, .float .f32 d]] w fun e w' => e = .returned (.bool true) ∧ Below w.heap.size w w' := by
  have HI := Lib.hid (impl_PText a b c d ha hb hc hd)
  have HS := Lib.hid (spec_Is a b c d)
  have HN := Lib.hid (spec_NText [a, b, c, d] 0 (by simp; omega) (by simp))
  generalize pulseOk a b c d = v at HI HS
  generalize strB (numsL [a, b, c, d]) = r at HI HN
  generalize hsr : (if v = true then r else ⟨#[]⟩) = s at HI
  have HR := Lib.hid hsr
  clear hsr
  clear ha hb hc hd
  go_enter Tryd.func5, Tryd.ntmps5
  go_wp2_with (fail)
  refine (laws_toPulse.calls a b c d a b c d _ rfl).mono ?_
  rintro e w1 ⟨rfl, hb1⟩
  have hB1 := below_then (below_alloc (Below.refl w.heap.size w) _) (by simp) hb1
  have bk1 := blk_below (heap_alloc_new w _) hb1
  clear hb1
  go_wp2_with (fail)
  refine (PulseText_said a b c d _ v r s HR.out _ HS.out HN.out).mono ?_
  rintro e w2 ⟨rfl, hb2⟩
  have hB2 := below_then hB1 hB1.size hb2
  have bk2 := blk_below bk1 hb2
  clear hb2 bk1 hB1
  have c0 : w2.cell? ⟨w.heap.size, 0, none⟩ = some (.float .f32 a) := (blk_cell bk2 0).trans rfl
  have c1 : w2.cell? ⟨w.heap.size, 1, none⟩ = some (.float .f32 b) := (blk_cell bk2 1).trans rfl
  have c2 : w2.cell? ⟨w.heap.size, 2, none⟩ = some (.float .f32 c) := (blk_cell bk2 2).trans rfl
  have c3 : w2.cell? ⟨w.heap.size, 3, none⟩ = some (.float .f32 d) := (blk_cell bk2 3).trans rfl
  have HG2 := Lib.hid (hG.below hB2)
  clear bk2
  go_wp2_with (fail)
  refine (laws_toPulse.calls a b c d a b c d _ rfl).mono ?_
  rintro e w3 ⟨rfl, hb3⟩
  go_wp2_with (fail)
  refine (impl_PulseText.calls 5 a b c d _ _ _ (HG2.out.below hb3) HI.out).mono ?_
  rintro e w4 ⟨rfl, hb4⟩
  have hB4 := below_then hB2 hB2.size (below_then hb3 hb3.size hb4)
  clear hb3 hb4 hB2 c0 c1 c2 c3 HG2 hG HI HS HN HR
  go_wp2
  go_ret
  exact ⟨by simp, hB4⟩
end Go.Proofs.YtlfgkibfhhifmaaDoor

/- A slice of 32-bit numbers in a row's input, laid open. -/
import Derived.Test.YtlfgkibfhhifmaaDoorRow
import Derived.Deep.Slices
namespace Go.Proofs.YtlfgkibfhhifmaaDoor
open Go.ChangeShapes Go.WideShapes Go.ChangeAt Go.RowKit Go.Proofs.YtlfgkibfhhifmaaDoorW.PrintWords
theorem open_f32s {H : Type} {enc : TypeId × Value → H} {w : World} {base : Nat} {spare : Nat → Bool} {held : Bool} {n : Nat} {a : Option Addr} {len cap : Nat} {y : DataW H × List MemPlace}
    (h : DataW.trod enc Tryd.prog w base spare held n 39 [.slice a len cap] = some y) :
    ∃ zs : List Nat, zs.length = len ∧ len ≤ cap ∧ Kd.C (kdFl .f32) w a zs.length zs ∧ ∀ z ∈ zs, z < 4294967296 := by
  rcases Go.Deep.open_slice1 Tryd.underlying39 (by kernel_rfl) h with ⟨hcs, _⟩ | ⟨x, l, c, m, k, V, D, Pl, hcs, _, hl, hm, hmm, _, hx⟩
  · simp at hcs
    obtain ⟨rfl, rfl, rfl⟩ := hcs
    exact ⟨[], rfl, Nat.le_refl _, Kd.C_of_reads (d := (0 : Nat)) ⟨rfl, by simp, fun h0 => by simp at h0⟩, by simp⟩
  · simp at hcs
    obtain ⟨rfl, rfl, rfl⟩ := hcs
    have hle : len ≤ m := by rw [hmm]; split <;> omega
    have hf : ∀ i, i < len → ∃ b, V i = .float .f32 b ∧ b < 4294967296 := fun i hi => by
      obtain ⟨b, hb, hw⟩ := trod_fl Tryd.underlying32 (hx i (by omega)).2
      exact ⟨b, hb, lt_of_wf hw⟩
    let f : Nat → Nat := fun i => match V i with | .float _ b => b | _ => 0
    have hfV : ∀ i, i < len → V i = .float .f32 (f i) ∧ f i < 4294967296 := fun i hi => by
      obtain ⟨b, hb, hw⟩ := hf i hi
      have : f i = b := by show (match V i with | .float _ b => b | _ => 0) = b; rw [hb]
      rw [this]; exact ⟨hb, hw⟩
    have hlm : len ≤ 9223372036854775807 := Nat.le_trans hl hm
    refine ⟨(List.range len).map f, by simp, hl, Kd.C_of_reads (d := (0 : Nat)) ⟨rfl, by simpa using hlm, fun _ => ⟨x, rfl, fun j hj => ?_⟩⟩, ?_⟩
    · have hj' : j < len := by simpa using hj
      rw [(hx j (by omega)).1, (hfV j hj').1]
      simp [List.getD_eq_getElem?_getD, List.getElem?_map, List.getElem?_range hj']
    · intro z hz
      obtain ⟨i, hi, rfl⟩ := List.mem_map.1 hz
      exact (hfV i (by simpa using hi)).2
end Go.Proofs.YtlfgkibfhhifmaaDoor

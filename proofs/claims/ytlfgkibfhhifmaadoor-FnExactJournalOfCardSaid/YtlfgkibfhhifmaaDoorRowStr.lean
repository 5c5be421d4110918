/- A slice of strings in a row's input, laid open. -/
import Derived.Test.YtlfgkibfhhifmaaDoorRow
import Derived.Deep.Strs
namespace Go.Proofs.YtlfgkibfhhifmaaDoor
open Go.ChangeShapes Go.WideShapes Go.ChangeAt Go.RowKit Go.Proofs.YtlfgkibfhhifmaaDoorW.PrintWords
theorem open_strsC {H : Type} {enc : TypeId × Value → H} {w : World} {base : Nat} {spare : Nat → Bool} {held : Bool} {n : Nat} {a : Option Addr} {len cap : Nat} {y : DataW H × List MemPlace}
    (h : DataW.trod enc Tryd.prog w base spare held n 22 [.slice a len cap] = some y) :
    ∃ zs : List ByteArray, zs.length = len ∧ len ≤ cap ∧ Kd.C Kd.string w a zs.length zs ∧ ∀ z ∈ zs, z.size ≤ 9223372036854775807 := by
  rcases Go.Deep.open_strs Tryd.underlying22 Tryd.underlying9 (by kernel_rfl) h with ⟨hcs, _⟩ | ⟨x, l, c, m, S, hcs, _, hl, hm, hmm, _, hx⟩
  · simp at hcs
    obtain ⟨rfl, rfl, rfl⟩ := hcs
    exact ⟨[], rfl, Nat.le_refl _, Kd.C_of_reads (d := ByteArray.empty) ⟨rfl, by simp, fun h0 => by simp at h0⟩, by simp⟩
  · simp at hcs
    obtain ⟨rfl, rfl, rfl⟩ := hcs
    have hle : len ≤ m := by rw [hmm]; split <;> omega
    have hlm : len ≤ 9223372036854775807 := Nat.le_trans hl hm
    refine ⟨(List.range len).map S, by simp, hl, Kd.C_of_reads (d := ByteArray.empty) ⟨rfl, by simpa using hlm, fun _ => ⟨x, rfl, fun j hj => ?_⟩⟩, ?_⟩
    · have hj' : j < len := by simpa using hj
      rw [(hx j (by omega)).1]
      simp [List.getD_eq_getElem?_getD, List.getElem?_map, List.getElem?_range hj']
    · intro z hz
      obtain ⟨i, hi, rfl⟩ := List.mem_map.1 hz
      exact (hx i (by have := List.mem_range.1 hi; omega)).2
end Go.Proofs.YtlfgkibfhhifmaaDoor

/- spec.l01Cut: the plain law. -/
import Derived.Test.YtlfgkibfhhifmaaDoorCut
import Derived.Test.YtlfgkibfhhifmaaDoorPCutx1
import Derived.Test.YtlfgkibfhhifmaaDoorJour
namespace Go.Proofs.YtlfgkibfhhifmaaDoor
open Go.RowKit Go.Proofs.YtlfgkibfhhifmaaDoorW.PrintWords Go.Proofs.YtlfgkibfhhifmaaDoorW.PrintLast Go.Proofs.YtlfgkibfhhifmaaDoorW.PrintMore
def splitA (c : UInt8) : List UInt8 → List UInt8 → List (List UInt8)
  | cur, [] => [cur]
  | cur, x :: l => if x = c then cur :: splitA c [] l else splitA c (cur ++ [x]) l
theorem splitA_step (c : UInt8) (cur l : List UInt8) : splitA c cur l = (cur ++ before c l) :: (if hasB c l = true then splitA c [] (after c l) else []) := by
  induction l generalizing cur with
  | nil => simp [splitA, before, hasB]
  | cons x l ih =>
    by_cases hx : x = c
    · simp [splitA, before, hasB, after, hx]
    · rw [splitA, if_neg hx, ih]
      simp [before, hasB, after, hx]
theorem cut_rounds (c : UInt8) (rest done cur : List UInt8) (acc : List ByteArray) (k : Nat) (hl : (done ++ cur ++ rest).length < 4398046511104) (ha : acc.length + rest.length < 8796093022000) :
    PCut.spec_l01Cut.l0 (k + rest.length + 2) (strB (done ++ cur ++ rest)) (c.toNat : Int) acc (done.length : Int) ((done.length + cur.length : Nat) : Int) = some (acc ++ (splitA c cur rest).map strB) := by
  induction rest generalizing done cur acc with
  | nil =>
    rw [List.append_nil] at hl ⊢
    have hs : (strB (done ++ cur)).size = done.length + cur.length := by rw [strB_size, List.length_append]
    simp only [List.length_append] at hl
    rw [show k + ([] : List UInt8).length + 2 = (k + 1) + 1 from rfl, PCut.spec_l01Cut.l0, if_pos (by omega), if_pos (by omega), if_pos (by omega), if_pos (by omega), if_pos (by simp only [List.length_nil] at ha; omega)]
    have e1 : wrap64 (((done.length + cur.length : Nat) : Int) + 1) = ((done.length + cur.length + 1 : Nat) : Int) := by unfold wrap64; omega
    rw [e1, PCut.spec_l01Cut.l0, if_neg (by omega)]
    rw [ext_strB]
    simp only [splitA, List.map_cons, List.map_nil]
    congr 4
    rw [Int.toNat_natCast, Int.toNat_natCast, ← List.length_append, List.take_length]
    simp
  | cons x rest ih =>
    have hs : (strB (done ++ cur ++ x :: rest)).size = done.length + cur.length + (rest.length + 1) := by rw [strB_size]; simp; omega
    simp only [List.length_append, List.length_cons] at hl ha
    rw [show k + (x :: rest).length + 2 = (k + rest.length + 2) + 1 by simp; omega, PCut.spec_l01Cut.l0, if_pos (by omega), if_neg (by omega), if_pos (by omega), if_pos (by omega)]
    have e1 : wrap64 (((done.length + cur.length : Nat) : Int) + 1) = ((done.length + cur.length + 1 : Nat) : Int) := by unfold wrap64; omega
    have hb := bt_here (done ++ cur) rest x
    rw [List.length_append] at hb
    rw [hb, e1]
    by_cases hx : x = c
    · rw [if_pos (by rw [hx]), if_pos (by omega), if_pos (by omega), if_pos (by omega)]
      have h := ih (done ++ cur ++ [x]) [] (acc ++ [strB cur]) (by simp; omega) (by simp; omega)
      have e2 : done ++ cur ++ [x] ++ [] ++ rest = done ++ cur ++ x :: rest := by simp
      have e3 : (done ++ cur ++ [x]).length = done.length + cur.length + 1 := by simp; omega
      rw [e2, e3] at h
      have e4 : (strB (done ++ cur ++ x :: rest)).extract ((done.length : Int)).toNat (((done.length + cur.length : Nat) : Int)).toNat = strB cur := by
        rw [ext_strB, Int.toNat_natCast, Int.toNat_natCast]
        congr 1
        rw [← List.length_append, List.take_left, List.drop_left]
      rw [e4]
      simp only [List.length_nil, Nat.add_zero] at h
      rw [h]
      simp [splitA, hx]
    · have hcn : ¬ ((x.toNat : Int) = (c.toNat : Int)) := fun h => hx (UInt8.toNat_inj.1 (by omega))
      rw [if_neg hcn]
      have h := ih done (cur ++ [x]) acc (by simp; omega) (by omega)
      have e2 : done ++ (cur ++ [x]) ++ rest = done ++ cur ++ x :: rest := by simp
      have e3 : done.length + (cur ++ [x]).length = done.length + cur.length + 1 := by simp; omega
      rw [e2, e3] at h
      rw [h]
      simp [splitA, hx]
theorem spec_cut (c : UInt8) (l : List UInt8) (hl : l.length < 4398046511104) : PCut.spec_l01Cut.f (l.length + 2) (strB l) (c.toNat : Int) = some ((splitA c [] l).map strB) := by
  have := cut_rounds c l [] [] [] 0 (by simpa using hl) (by simp only [List.length_nil]; omega)
  simpa [PCut.spec_l01Cut.f] using this
end Go.Proofs.YtlfgkibfhhifmaaDoor

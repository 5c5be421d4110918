/- strings.Cut at a separator of one byte. -/
import Derived.Test.YtlfgkibfhhifmaaDoorText
import Derived.Test.YtlfgkibfhhifmaaDoorShelf
import Derived.Lib.IndexLaws
import Derived.BigQuiet
namespace Go.Proofs.YtlfgkibfhhifmaaDoor
open Go.RowKit Go.Proofs.YtlfgkibfhhifmaaDoorW.PrintWords Go.Proofs.YtlfgkibfhhifmaaDoorW.PrintLast Go.Proofs.YtlfgkibfhhifmaaDoorW.PrintMore
def before (c : UInt8) : List UInt8 → List UInt8
  | [] => []
  | x :: l => if x = c then [] else x :: before c l
def after (c : UInt8) : List UInt8 → List UInt8
  | [] => []
  | x :: l => if x = c then l else after c l
def hasB (c : UInt8) : List UInt8 → Bool
  | [] => false
  | x :: l => if x = c then true else hasB c l
theorem cut_none (c : UInt8) (l : List UInt8) (h : Lib.indexByte l c = -1) : before c l = l ∧ after c l = [] ∧ hasB c l = false := by
  induction l with
  | nil => exact ⟨rfl, rfl, rfl⟩
  | cons x l ih =>
    have hne : x ≠ c := fun e => Lib.indexByte_none h 0 (by simp [e])
    have h2 : Lib.indexByte l c = -1 := by
      unfold Lib.indexByte at h
      rw [if_neg (by simpa using hne)] at h
      split at h
      · rename_i h3; simpa using h3
      · have := Lib.indexByte_ge l c
        rename_i h3
        simp at h3
        omega
    obtain ⟨a, b, d⟩ := ih h2
    simp [before, after, hasB, hne, a, b, d]
theorem cut_some (c : UInt8) (l : List UInt8) (o : Nat) (h : Lib.indexByte l c = o) : o < l.length ∧ before c l = l.take o ∧ after c l = l.drop (o + 1) ∧ hasB c l = true := by
  induction l generalizing o with
  | nil => simp [Lib.indexByte] at h
  | cons x l ih =>
    unfold Lib.indexByte at h
    by_cases hx : x = c
    · rw [if_pos (by simpa using hx)] at h
      obtain rfl : o = 0 := by omega
      simp [before, after, hasB, hx]
    · rw [if_neg (by simpa using hx)] at h
      have hge := Lib.indexByte_ge l c
      split at h
      · omega
      · rename_i h3
        simp at h3
        obtain ⟨p, hp⟩ := Int.eq_ofNat_of_zero_le (show 0 ≤ Lib.indexByte l c by omega)
        obtain ⟨a, b, d, e⟩ := ih p hp
        obtain rfl : o = p + 1 := by omega
        simp [before, after, hasB, hx, a, b, d, e]
theorem ext_strB (l : List UInt8) (i j : Nat) : (strB l).extract i j = strB ((l.take j).drop i) := by
  unfold strB
  have e : ((⟨l.toArray⟩ : ByteArray).extract i j).data = (⟨((l.take j).drop i).toArray⟩ : ByteArray).data := by
    simp [List.drop_take]
  exact congrArg ByteArray.mk e
set_option maxRecDepth 100000 in
theorem lite_Cut_one (l : List UInt8) (c : UInt8) (w : World) (hl : l.length < 4611686018427387904) :
    Calls Tryd.prog 94 #[.string (strB l), .string ⟨#[c]⟩] w fun e w' => e = .returned (.tuple #[.string (strB (before c l)), .string (strB (after c l)), .bool (hasB c l)]) ∧ Drawn0 w w' := by
  have CI := Aside0.mk (show ∀ W, Calls Tryd.prog 125 #[.string (strB l), .string ⟨#[c]⟩] W fun e w' => e = .returned (.int .i64 (Lib.indexByte l c)) ∧ w' = W from fun W => Tryd.stringslite_Index_one (strB l) c W)
  have hs : (strB l).size = l.length := (by simp [strB, ByteArray.size])
  rcases Int.lt_or_le (Lib.indexByte l c) 0 with hneg | hpos
  · have hge := Lib.indexByte_ge l c
    have e : Lib.indexByte l c = -1 := by omega
    obtain ⟨h1, h2, h3⟩ := cut_none c l e
    rw [e] at CI
    rw [h1, h2, h3]
    clear hge hneg e h1 h2 h3
    go_enter Tryd.func94, Tryd.ntmps94
    go_wp2_with (fail)
    (with_reducible refine (CI.out _).mono ?_)
    rintro e w1 ⟨rfl, rfl⟩
    go_wp2
    go_ret3
    exact ⟨rfl, Drawn0.refl _⟩
  · obtain ⟨o, ho⟩ := Int.eq_ofNat_of_zero_le hpos
    obtain ⟨h0, h1, h2, h3⟩ := cut_some c l o ho
    rw [ho] at CI
    rw [h1, h2, h3]
    have e1 : (strB l).extract 0 o = strB (l.take o) := by rw [ext_strB, List.drop_zero]
    have e2 : (strB l).extract (o + 1) l.length = strB (l.drop (o + 1)) := by rw [ext_strB, List.take_length]
    rw [← e1, ← e2]
    have k1 : (o : Int) ≤ (strB l).size := by omega
    have k2 : (o : Int) + 1 ≤ (strB l).size := by omega
    clear hpos ho h1 h2 h3 e1 e2
    go_enter Tryd.func94, Tryd.ntmps94
    go_wp2_with (fail)
    (with_reducible refine (CI.out _).mono ?_)
    rintro e w1 ⟨rfl, rfl⟩
    go_wp2
    go_quiet (fail)
    all_goals go_wp2
    go_ret3
    exact ⟨rfl, ⟨nq, rfl⟩⟩
theorem Cut_one (l : List UInt8) (c : UInt8) (w : World) (hl : l.length < 4611686018427387904) :
    Calls Tryd.prog 51 #[.string (strB l), .string ⟨#[c]⟩] w fun e w' => e = .returned (.tuple #[.string (strB (before c l)), .string (strB (after c l)), .bool (hasB c l)]) ∧ Drawn0 w w' := by
  have CI := Aside0.mk (lite_Cut_one l c w hl)
  clear hl
  go_enter Tryd.func51, Tryd.ntmps51
  go_wp2_with (fail)
  (with_reducible refine (CI.out).mono ?_)
  rintro e w1 ⟨rfl, hd⟩
  go_wp2
  go_ret3
  exact ⟨rfl, hd⟩
end Go.Proofs.YtlfgkibfhhifmaaDoor

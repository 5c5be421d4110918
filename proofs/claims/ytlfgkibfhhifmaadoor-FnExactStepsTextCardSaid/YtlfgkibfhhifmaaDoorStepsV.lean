/- The text of steps: the walks that write. -/
import Derived.Test.YtlfgkibfhhifmaaDoorStepsW
namespace Go.Proofs.YtlfgkibfhhifmaaDoor
open Go.RowKit Go.Proofs.YtlfgkibfhhifmaaDoorW.PrintWords Go.Proofs.YtlfgkibfhhifmaaDoorW.PrintLast Go.Proofs.YtlfgkibfhhifmaaDoorW.PrintMore Go.Proofs.YtlfgkibfhhifmaaDoor.PTxt
def stepsT (es hs : List Nat) : ByteArray := strB (numsL es ++ 59 :: numsL hs)
theorem numsL_len (xs : List Nat) (hx : ∀ x ∈ xs, x < 4294967296) : (numsL xs).length ≤ 9 * xs.length + 4 := by
  unfold numsL
  cases xs with
  | nil => simp
  | cons x xs =>
    rw [if_neg (by simp), List.map_cons, Lib.join_cons]
    have h9 := tailL_len xs fun y hy => hx y (List.mem_cons_of_mem _ hy)
    have h8 := numL_len x (hx x List.mem_cons_self)
    unfold tailL at h9
    simp only [List.length_append, List.length_cons]
    omega
theorem stepsT_cat (es hs : List Nat) : (strB (numsL es) ++ (⟨#[59]⟩ : ByteArray)) ++ strB (numsL hs) = stepsT es hs := by
  have e1 : strB (numsL es) ++ (⟨#[59]⟩ : ByteArray) = strB (numsL es ++ [59]) := bytes_cat (numsL es) [59]
  have e2 : strB (numsL es ++ [59]) ++ strB (numsL hs) = strB ((numsL es ++ [59]) ++ numsL hs) := bytes_cat _ _
  rw [e1, e2]
  unfold stepsT
  rw [List.append_assoc]
  rfl
set_option maxHeartbeats 4000000 in
set_option maxRecDepth 100000 in
theorem l08Steps_any (g : Nat) (A B : Option Addr) (c d : Nat) (es hs : List Nat) (w : World) (hb : w.heap[g]? = some (.cells #[.slice A es.length c, .slice B hs.length d] 44 (0, 0)))
    (hE : Kd.C (kdFl .f32) w A es.length es) (hH : Kd.C (kdFl .f32) w B hs.length hs) (hce : es.length ≤ c) (hch : hs.length ≤ d) (hle : es.length ≤ 1048576) (hlh : hs.length ≤ 1048576) (he : ∀ x ∈ es, x < 4294967296) (hh : ∀ x ∈ hs, x < 4294967296) :
    Calls Tryd.prog 59 #[.pointer (some ⟨g, 0, none⟩)] w fun e w' => e = .returned (.string (stepsT es hs)) ∧ Below w.heap.size w w' := by
  have NE := Lib.hid (spec_NText es 0 he (by omega))
  have NH := Lib.hid (spec_NText hs 0 hh (by omega))
  have HC := Lib.hid (stepsT_cat es hs)
  have L1 := numsL_len es he
  have L2 := numsL_len hs hh
  have s1 : (strB (numsL es)).size = (numsL es).length := by simp [strB, ByteArray.size]
  have s2 : (strB (numsL hs)).size = (numsL hs).length := by simp [strB, ByteArray.size]
  have z1 : (strB (numsL es)).size ≤ 9437188 := by omega
  have z2 : (strB (numsL hs)).size ≤ 9437188 := by omega
  clear he hh hle hlh L1 L2 s1 s2
  generalize strB (numsL es) = te at NE HC z1
  generalize strB (numsL hs) = th at NH HC z2
  have z3 : te.size + 1 ≤ 9223372036854775807 := by omega
  have z4 : (te ++ (⟨#[59]⟩ : ByteArray)).size + th.size ≤ 9223372036854775807 := by
    rw [ByteArray.size_append]
    have : (⟨#[59]⟩ : ByteArray).size = 1 := rfl
    omega
  have z5 : te.size + 1 + th.size ≤ 9223372036854775807 := by omega
  have z6 : te.size + (1 + th.size) ≤ 9223372036854775807 := by omega
  have HE := Aside0.mk hE
  have HH := Aside0.mk hH
  clear hE hH
  have HS := Aside0.mk (show ∀ w1, Below w.heap.size w w1 → Below w.heap.size w w1 ∧ w1.cell? ⟨g, 0, none⟩ = some (.slice A es.length c) ∧ w1.cell? ⟨g, 1, none⟩ = some (.slice B hs.length d) from fun w1 hw => by
    have := blk_below hb hw
    exact ⟨hw, (blk_cell this 0).trans rfl, (blk_cell this 1).trans rfl⟩)
  clear hb
  obtain ⟨hB0, c0, c1⟩ := HS.out w (Below.refl w.heap.size w)
  have CE := Aside0.mk (show ∀ W, Below w.heap.size w W → Calls Tryd.prog 97 #[.slice A es.length c] W fun e w' => e = .returned (.string te) ∧ Below w.heap.size w w' ∧ w'.cell? ⟨g, 0, none⟩ = some (.slice A es.length c) ∧ w'.cell? ⟨g, 1, none⟩ = some (.slice B hs.length d) from fun W hW =>
    (spec_l01NText.calls _ A c es te W (Kd.C_below HE.out hW) hce NE.out).mono fun e w' ⟨he, hb⟩ => ⟨he, HS.out w' (below_then hW hW.size hb)⟩)
  have CH := Aside0.mk (show ∀ W, Below w.heap.size w W → Calls Tryd.prog 97 #[.slice B hs.length d] W fun e w' => e = .returned (.string th) ∧ Below w.heap.size w w' ∧ w'.cell? ⟨g, 0, none⟩ = some (.slice A es.length c) ∧ w'.cell? ⟨g, 1, none⟩ = some (.slice B hs.length d) from fun W hW =>
    (spec_l01NText.calls _ B d hs th W (Kd.C_below HH.out hW) hch NH.out).mono fun e w' ⟨he, hb⟩ => ⟨he, HS.out w' (below_then hW hW.size hb)⟩)
  clear HE HH HS NE NH hce hch z1 z2
  go_enter Tryd.func59, Tryd.ntmps59
  go_wp2
  have hBd := below_drew hB0
  go_region_with (first
      | ((with_reducible refine (CE.out _ ?_).mono ?_); (first | exact hBd | assumption); rintro e w1 ⟨rfl, hB1, c10, c11⟩)
      | ((with_reducible refine (CH.out _ ?_).mono ?_); (first | exact hBd | assumption); rintro e w1 ⟨rfl, hB1, c10, c11⟩))
  all_goals go_wp2
  all_goals go_ret
  all_goals exact ⟨by simp only [HC.out]; rfl, by assumption⟩
end Go.Proofs.YtlfgkibfhhifmaaDoor

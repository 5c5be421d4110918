/- The text of steps: the law. -/
import Derived.Test.YtlfgkibfhhifmaaDoorStepsV
namespace Go.Proofs.YtlfgkibfhhifmaaDoor
open Go.RowKit Go.Proofs.YtlfgkibfhhifmaaDoorW.PrintWords Go.Proofs.YtlfgkibfhhifmaaDoorW.PrintLast Go.Proofs.YtlfgkibfhhifmaaDoorW.PrintMore Go.Proofs.YtlfgkibfhhifmaaDoor.PTxt
set_option maxHeartbeats 4000000 in
set_option maxRecDepth 100000 in
theorem StepsText_any (A B : Option Addr) (c d : Nat) (es hs : List Nat) (w : World)
    (hE : Kd.C (kdFl .f32) w A es.length es) (hH : Kd.C (kdFl .f32) w B hs.length hs) (hce : es.length ≤ c) (hch : hs.length ≤ d) (hle : es.length ≤ 1048576) (hlh : hs.length ≤ 1048576) (he : ∀ x ∈ es, x < 4294967296) (hh : ∀ x ∈ hs, x < 4294967296)
    (v : Bool) (t : ByteArray) (hv : stepsOk es hs = v) (ht : (if v = true then stepsT es hs else ⟨#[]⟩) = t) :
    Calls Tryd.prog 23 #[.agg #[.slice A es.length c, .slice B hs.length d]] w fun e w' => e = .returned (.tuple #[.string t, .bool v]) ∧ Below w.heap.size w w' := by
  have HB := below_alloc (Below.refl w.heap.size w) (.cells #[.slice A es.length c, .slice B hs.length d] 44)
  have C1 := Aside0.mk (l08Steps_any w.heap.size A B c d es hs)
  have I1 := Aside0.mk (l02Is_any w.heap.size A B c d es hs _ (heap_alloc_new w _) (Kd.C_alloc hE _) (Kd.C_alloc hH _) hce hch (by omega) (by omega))
  have HE := Aside0.mk hE
  have HH := Aside0.mk hH
  have HX := Aside0.mk he
  have HY := Aside0.mk hh
  rw [hv] at I1
  have HT := Lib.hid ht
  clear hE hH he hh hv ht
  go_enter Tryd.func23, Tryd.ntmps23
  go_wp2_with (fail)
  with_reducible refine (I1.out).mono ?_
  rintro e w1 ⟨rfl, ⟨nd, rfl⟩⟩
  cases v with
  | false =>
    have e : t = ⟨#[]⟩ := HT.out.symm
    subst e
    clear HT C1 I1
    go_wp2
    go_ret2
    exact ⟨rfl, pw_below_drewN HB nd⟩
  | true =>
    have e : stepsT es hs = t := HT.out
    clear HT I1
    rw [e] at C1
    go_wp2_with (fail)
    refine (C1.out ((w.alloc (.cells #[.slice A es.length c, .slice B hs.length d] 44)).drewN nd) (heap_alloc_new w _) (Kd.C_below HE.out (pw_below_drewN HB nd)) (Kd.C_below HH.out (pw_below_drewN HB nd)) hce hch hle hlh HX.out HY.out).mono ?_
    rintro e w2 ⟨rfl, hb2⟩
    clear C1
    go_wp2
    go_ret2
    exact ⟨rfl, below_then (pw_below_drewN HB nd) (pw_below_drewN HB nd).size hb2⟩
set_option maxRecDepth 100000 in
theorem eqSteps_any (A B A2 B2 : Option Addr) (c d c2 d2 : Nat) (es hs : List Nat) (w : World)
    (hE : Kd.C (kdFl .f32) w A es.length es) (hH : Kd.C (kdFl .f32) w B hs.length hs) (hE2 : Kd.C (kdFl .f32) w A2 es.length es) (hH2 : Kd.C (kdFl .f32) w B2 hs.length hs) :
    Calls Tryd.prog 26 #[.agg #[.slice A es.length c, .slice B hs.length d], .agg #[.slice A2 es.length c2, .slice B2 hs.length d2]] w fun e w' => e = .returned (.bool true) ∧ Below w.heap.size w w' := by
  have HE := Aside0.mk hE
  have HH := Aside0.mk hH
  have HE2 := Aside0.mk hE2
  have HH2 := Aside0.mk hH2
  clear hE hH hE2 hH2
  go_enter Tryd.func26, Tryd.ntmps26
  go_wp2_with (fail)
  refine (eqF32_any A A2 c c2 es _ (Kd.C_alloc (Kd.C_alloc HE.out _) _) (Kd.C_alloc (Kd.C_alloc HE2.out _) _)).mono ?_
  rintro e w1 ⟨rfl, ⟨nd, rfl⟩⟩
  go_wp2_with (fail)
  refine (eqF32_any B B2 d d2 hs _ (Kd.C_drewN (Kd.C_alloc (Kd.C_alloc HH.out _) _) _) (Kd.C_drewN (Kd.C_alloc (Kd.C_alloc HH2.out _) _) _)).mono ?_
  rintro e w1 ⟨rfl, ⟨nd2, rfl⟩⟩
  go_wp2
  go_ret
  exact ⟨rfl, by repeat (first | exact Below.refl _ _ | apply pw_below_drewN | apply below_alloc)⟩
theorem toF_rounds (xs : List Nat) (n k : Nat) (ys : List Nat) (hy : ys.length = xs.length) (hn : n ≤ xs.length) (hl : xs.length < 4611686018427387904) :
    laws_toFloat32S.l0 (k + n + 1) xs ys ((xs.length - n : Nat) : Int) = some (ys.take (xs.length - n) ++ xs.drop (xs.length - n)) := by
  induction n generalizing k ys with
  | zero =>
    rw [laws_toFloat32S.l0, if_neg (by omega)]
    simp [← hy]
  | succ n ih =>
    rw [show k + (n + 1) + 1 = (k + n + 1) + 1 by omega]
    rw [laws_toFloat32S.l0, if_pos (by omega), if_pos (by omega), if_pos (by omega)]
    have e1 : wrap64 (((xs.length - (n + 1) : Nat) : Int) + 1) = ((xs.length - n : Nat) : Int) := by unfold wrap64; omega
    have e2 : (((xs.length - (n + 1) : Nat) : Int)).toNat = xs.length - (n + 1) := by omega
    rw [e1, e2]
    rw [ih k (ys.set (xs.length - (n + 1)) (rdOf (0 : Nat) xs ((xs.length - (n + 1) : Nat) : Int))) (by simp [hy]) (by omega)]
    congr 1
    have hj : xs.length - (n + 1) < xs.length := by omega
    have e3 : rdOf (0 : Nat) xs ((xs.length - (n + 1) : Nat) : Int) = xs[xs.length - (n + 1)] := by
      simp [rdOf, List.getD_eq_getElem?_getD, List.getElem?_eq_getElem hj]
    rw [e3]
    rw [List.drop_eq_getElem_cons hj]
    rw [show xs.length - n = (xs.length - (n + 1)) + 1 by omega]
    rw [List.take_succ_eq_append_getElem (by simp [hy]; omega)]
    rw [List.take_set, List.set_eq_of_length_le (by simp; omega)]
    simp
theorem toF_same (xs : List Nat) (hl : xs.length ≤ 70368744177664) : laws_toFloat32S.f (xs.length + 1) xs = some xs := by
  unfold laws_toFloat32S.f
  rw [if_pos (by omega), if_pos (by omega)]
  have := toF_rounds xs xs.length 0 (List.replicate xs.length 0) (by simp) (Nat.le_refl _) (by omega)
  simpa using this
theorem toSteps_same (es hs : List Nat) (he : es.length ≤ 1048576) (hh : hs.length ≤ 1048576) : laws_toSteps.f 1048577 es hs = some (es, hs) := by
  have m : ∀ xs : List Nat, ∀ n k, laws_toFloat32S.f k xs = some xs → laws_toFloat32S.f (k + n) xs = some xs := by
    intro xs n
    induction n with
    | zero => intro k h; exact h
    | succ n ih => intro k h; exact laws_toFloat32S.mono xs (k + n) _ (ih k h)
  unfold laws_toSteps.f
  have e1 := m es (1048576 - es.length) _ (toF_same es (by omega))
  have e2 := m hs (1048576 - hs.length) _ (toF_same hs (by omega))
  rw [show es.length + 1 + (1048576 - es.length) = 1048577 by omega] at e1
  rw [show hs.length + 1 + (1048576 - hs.length) = 1048577 by omega] at e2
  rw [e1, e2]
  rfl
def szOk (es hs : List Nat) : Bool := decide (es.length + hs.length ≤ 1048576)
theorem szSteps_eq (es hs : List Nat) (he : es.length ≤ 9223372036854775807) (hh : hs.length ≤ 9223372036854775807) :
    ∃ r, laws_szSteps.f es hs 1048576 = some r ∧ (r < 0 ↔ ¬ es.length + hs.length ≤ 1048576) := by
  unfold laws_szSteps.f laws_szFloat32S.f
  have e1 : wrap64 (1048576 - (es.length : Int)) = 1048576 - es.length := by unfold wrap64; omega
  rw [e1]
  by_cases h1 : (1048576 : Int) - es.length < 0
  · rw [if_pos h1]
    exact ⟨-1, rfl, by omega⟩
  · rw [if_neg h1]
    have e2 : wrap64 (1048576 - (es.length : Int) - (hs.length : Int)) = 1048576 - es.length - hs.length := by unfold wrap64; omega
    simp only [Option.bind_some, if_neg h1, e2]
    by_cases h2 : (1048576 : Int) - es.length - hs.length < 0
    · rw [if_pos h2]; exact ⟨-1, rfl, by omega⟩
    · rw [if_neg h2]; exact ⟨1048576 - (es.length : Int) - hs.length, by rw [Option.bind_some, if_neg h2], by omega⟩
theorem impl_SText (es hs : List Nat) (he : ∀ x ∈ es, x < 4294967296) (hh : ∀ x ∈ hs, x < 4294967296) :
    impl_StepsText.f 13 es hs = some (if stepsOk es hs = true then stepsT es hs else ⟨#[]⟩, stepsOk es hs) := by
  unfold impl_StepsText.f
  rw [show (13 : Nat) = 0 + 13 from rfl, impl_Valid]
  simp only [Option.bind_some]
  cases hv : stepsOk es hs with
  | false => rfl
  | true =>
    have hl : es.length < 12 ∧ hs.length = es.length + 1 := by
      unfold stepsOk at hv
      simp only [Bool.and_eq_true, decide_eq_true_eq] at hv
      exact ⟨hv.1.1.1.1, hv.1.1.1.2⟩
    have e1 := impl_NText es (12 - es.length) he (by omega)
    have e2 := impl_NText hs (12 - hs.length) hh (by omega)
    rw [show 12 - es.length + es.length + 1 = 0 + 13 by omega] at e1
    rw [show 12 - hs.length + hs.length + 1 = 0 + 13 by omega] at e2
    have L1 := numsL_len es he
    have L2 := numsL_len hs hh
    have s1 : (strB (numsL es)).size = (numsL es).length := by simp [strB, ByteArray.size]
    have s2 : (strB (numsL hs)).size = (numsL hs).length := by simp [strB, ByteArray.size]
    rw [if_pos rfl, e1, e2]
    simp only [Option.bind_some]
    have z : (strB (numsL es) ++ (⟨#[59]⟩ : ByteArray)).size = (strB (numsL es)).size + 1 := by rw [ByteArray.size_append]; rfl
    rw [if_pos (by omega), if_pos (by omega), stepsT_cat]
    rfl
end Go.Proofs.YtlfgkibfhhifmaaDoor

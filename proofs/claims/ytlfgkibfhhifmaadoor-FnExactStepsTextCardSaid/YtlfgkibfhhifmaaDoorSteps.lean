/- The text of steps: the reference's functions, and the law's own. -/
import Derived.Test.YtlfgkibfhhifmaaDoorPTxtx1
import Derived.Test.YtlfgkibfhhifmaaDoorPTxtx2
import Derived.Test.YtlfgkibfhhifmaaDoorPFinx1
import Derived.Test.YtlfgkibfhhifmaaDoorText
import Derived.Test.YtlfgkibfhhifmaaDoorEq
import Derived.StillTailTactics
import Derived.Deep.RegionHeld3
import Derived.BigQuiet
namespace Go.Proofs.YtlfgkibfhhifmaaDoor
open Go.RowKit Go.Proofs.YtlfgkibfhhifmaaDoorW.PrintWords Go.Proofs.YtlfgkibfhhifmaaDoorW.PrintLast Go.Proofs.YtlfgkibfhhifmaaDoorW.PrintMore Go.Proofs.YtlfgkibfhhifmaaDoor.PTxt
def up (xs : List Nat) (j : Nat) : Bool := (FloatKind.f32).format.order (xs.getD j 0) (xs.getD (j - 1) 0) == some .gt
def notUp (xs : List Nat) (j : Nat) : Bool := ((FloatKind.f32).format.order (xs.getD j 0) (xs.getD (j - 1) 0) == some .lt || (FloatKind.f32).format.order (xs.getD j 0) (xs.getD (j - 1) 0) == some .eq)
def upFrom (xs : List Nat) : Nat → Nat → Bool
  | 0, _ => true
  | n + 1, j => up xs j && upFrom xs n (j + 1)
def upAll (xs : List Nat) : Bool := upFrom xs (xs.length - 1) 1
def finAll (xs : List Nat) : Bool := !xs.any noFin
def stepsOk (es hs : List Nat) : Bool := decide (es.length < 12) && decide (hs.length = es.length + 1) && finAll es && finAll hs && upAll es
theorem order_fin (x y : Nat) (hx : fin32 x = true) (hy : fin32 y = true) : ∃ o, (FloatKind.f32).format.order x y = some o := by
  have r : ∀ b, fin32 b = true → ∃ s m p, Ieee.single.read b = .number s m p := by
    intro b hb
    have h' : b % 2147483648 < 2139095040 := by simpa [fin32] using hb
    unfold Ieee.Format.read
    simp only [show Ieee.single.signWeight = 2147483648 from rfl, show Ieee.single.binade = 8388608 from rfl, show Ieee.single.infRung = 2139095040 from rfl]
    by_cases h2 : b % 2147483648 < 8388608
    · rw [if_pos h2]; exact ⟨_, _, _, rfl⟩
    · rw [if_neg h2, if_pos h']; exact ⟨_, _, _, rfl⟩
  obtain ⟨s, m, p, e1⟩ := r x hx
  obtain ⟨t, n, q, e2⟩ := r y hy
  show ∃ o, (Ieee.single.read x).order (Ieee.single.read y) = some o
  rw [e1, e2]
  exact ⟨_, rfl⟩
theorem notUp_of_fin (xs : List Nat) (j : Nat) (hf : finAll xs = true) (hj : j < xs.length) (h1 : 1 ≤ j) : notUp xs j = !up xs j := by
  have hall : ∀ i, i < xs.length → fin32 (xs.getD i 0) = true := by
    intro i hi
    unfold finAll at hf
    rw [Bool.not_eq_true', List.any_eq_false] at hf
    have := hf xs[i] (List.getElem_mem hi)
    simpa [noFin, List.getD_eq_getElem?_getD, List.getElem?_eq_getElem hi] using this
  obtain ⟨o, e⟩ := order_fin _ _ (hall j hj) (hall (j - 1) (by omega))
  unfold notUp up
  rw [e]
  cases o <;> rfl
theorem impl_asc (xs : List Nat) (n j k : Nat) (hn : n + j = xs.length ∨ (n = 0 ∧ xs.length ≤ j)) (h1 : 1 ≤ j) (hl : xs.length < 4611686018427387904) (hj : j < 4611686018427387904) :
    impl_ascends.l0 (k + n + 1) xs (j : Int) = some (upFrom xs n j) := by
  induction n generalizing j k with
  | zero =>
    rw [impl_ascends.l0, if_neg (by omega)]
    rfl
  | succ n ih =>
    have hlt : j < xs.length := by omega
    have e1 : wrap64 ((j : Int) - 1) = ((j - 1 : Nat) : Int) := by unfold wrap64; omega
    have e2 : wrap64 ((j : Int) + 1) = ((j + 1 : Nat) : Int) := by unfold wrap64; omega
    rw [show k + (n + 1) + 1 = (k + n + 1) + 1 by omega]
    rw [impl_ascends.l0, if_pos (by omega), if_pos (by omega), e1, if_pos (by omega), if_pos (by omega), e2]
    have ea : rdOf (0 : Nat) xs (j : Int) = xs.getD j 0 := by simp [rdOf]
    have eb : rdOf (0 : Nat) xs ((j - 1 : Nat) : Int) = xs.getD (j - 1) 0 := by simp [rdOf]
    rw [ea, eb]
    have hu : up xs j = ((FloatKind.f32).format.order (xs.getD j 0) (xs.getD (j - 1) 0) == some .gt) := rfl
    rw [← hu, upFrom]
    cases up xs j with
    | false => rfl
    | true => rw [if_pos rfl, ih (j + 1) k (by omega) (by omega) (by omega)]; rfl
theorem impl_Valid (es hs : List Nat) (k : Nat) : impl_ValidSteps.f (k + 13) es hs = some (stepsOk es hs) := by
  unfold impl_ValidSteps.f impl_areFinite.f stepsOk finAll
  by_cases h1 : es.length < 12
  · rw [if_pos (by omega), show wrap64 ((es.length : Int) + 1) = ((es.length + 1 : Nat) : Int) by unfold wrap64; omega]
    by_cases h2 : hs.length = es.length + 1
    · rw [if_pos (by omega)]
      simp only [Option.bind_some, h1, h2, decide_true, Bool.true_and]
      generalize es.any noFin = p
      generalize hs.any noFin = q
      have ha : impl_ascends.f (k + 13) es = some (upAll es) := by
        unfold impl_ascends.f upAll
        have := impl_asc es (es.length - 1) 1 (k + 12 - (es.length - 1)) (by omega) (by omega) (by omega) (by omega)
        rw [show k + 12 - (es.length - 1) + (es.length - 1) + 1 = k + 13 by omega] at this
        exact this
      rw [ha]
      cases p <;> cases q <;> simp
    · rw [if_neg (by omega)]
      simp [h2]
  · rw [if_neg (by omega)]
    simp [h1]
theorem spec_fin (xs : List Nat) (ys : List Nat) (k : Nat) (hl : (xs ++ ys).length < 4611686018427387904) (hx : finAll xs = true) :
    Go.Proofs.YtlfgkibfhhifmaaDoor.PFin.spec_l02Finite.l0 (k + ys.length + 1) (xs ++ ys) (xs.length : Int) = some (finAll (xs ++ ys)) := by
  induction ys generalizing xs k with
  | nil => rw [PFin.spec_l02Finite.l0, if_neg (by simp)]; simp [hx]
  | cons y ys ih =>
    simp only [List.length_append, List.length_cons] at hl
    rw [show k + (y :: ys).length + 1 = (k + ys.length + 1) + 1 by simp; omega]
    rw [PFin.spec_l02Finite.l0, if_pos (by simp; omega), if_pos (by omega)]
    have e : rdOf (0 : Nat) (xs ++ y :: ys) (xs.length : Int) = y := by simp [rdOf]
    have e2 : wrap64 ((xs.length : Int) + 1) = ((xs ++ [y]).length : Int) := by
      unfold wrap64; simp only [List.length_append, List.length_singleton]; omega
    rw [e, e2]
    unfold spec_l01Finite.f
    simp only [Option.bind_some]
    cases hy : fin32 y with
    | false =>
      rw [if_neg (by decide)]
      simp [finAll, noFin, hy]
    | true =>
      rw [if_pos rfl]
      have := ih (xs ++ [y]) k (by simp; omega) (by simp [finAll, noFin, hy] at hx ⊢; exact hx)
      rw [List.append_assoc, List.singleton_append] at this
      exact this
theorem spec_finite (xs : List Nat) (k : Nat) (hl : xs.length < 4611686018427387904) : PFin.spec_l02Finite.f (k + xs.length + 1) xs = some (finAll xs) := by
  have := spec_fin [] xs k (by simpa using hl) rfl
  simpa [PFin.spec_l02Finite.f] using this
end Go.Proofs.YtlfgkibfhhifmaaDoor

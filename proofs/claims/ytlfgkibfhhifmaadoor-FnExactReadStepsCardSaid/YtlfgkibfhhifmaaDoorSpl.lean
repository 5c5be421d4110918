/- strings.Split at a separator of one byte. -/
import Derived.Test.YtlfgkibfhhifmaaDoorSplit
import Derived.Lib.SplitLaws
import Derived.Lib.IndexBytes
namespace Go.Proofs.YtlfgkibfhhifmaaDoor
open Go.RowKit Go.Proofs.YtlfgkibfhhifmaaDoorW.PrintWords Go.Proofs.YtlfgkibfhhifmaaDoorW.PrintLast Go.Proofs.YtlfgkibfhhifmaaDoorW.PrintMore
theorem count_no (c : UInt8) (l : List UInt8) (h : hasB c l = false) : l.count c = 0 := by
  induction l with
  | nil => rfl
  | cons x l ih =>
    by_cases hx : x = c
    · simp [hasB, hx] at h
    · have h2 : hasB c l = false := by simpa [hasB, hx] using h
      rw [List.count_cons_of_ne (by simpa using hx), ih h2]
theorem count_after (c : UInt8) (l : List UInt8) (h : hasB c l = true) : l.count c = (after c l).count c + 1 := by
  induction l with
  | nil => simp [hasB] at h
  | cons x l ih =>
    by_cases hx : x = c
    · subst hx; simp [after]
    · have h2 : hasB c l = true := by simpa [hasB, hx] using h
      rw [List.count_cons_of_ne (by simpa using hx), ih h2]
      simp [after, hx]
theorem splitK_A (c : UInt8) (n : Nat) (l : List UInt8) (hn : l.length ≤ n) : Lib.splitK [c] 0 (l.count c) l = splitA c [] l := by
  induction n generalizing l with
  | zero => obtain rfl := List.eq_nil_of_length_eq_zero (Nat.le_zero.1 hn); rfl
  | succ n ih =>
    rw [splitA_step, List.nil_append]
    have hge := Lib.indexByte_ge l c
    rcases Int.lt_or_le (Lib.indexByte l c) 0 with hneg | hpos
    · obtain ⟨h1, h2, h3⟩ := cut_none c l (by omega)
      rw [count_no c l h3, h1, h3]
      simp [Lib.splitK]
    · obtain ⟨o, ho⟩ := Int.eq_ofNat_of_zero_le hpos
      obtain ⟨h0, h1, h2, h3⟩ := cut_some c l o ho
      have e : (Lib.indexByte l c).toNat = o := by omega
      have hne : ¬ (Lib.indexByte l c == -1) = true := fun h => by have := beq_iff_eq.1 h; omega
      have hl2 : (after c l).length ≤ n := by rw [h2, List.length_drop]; omega
      rw [count_after c l h3, Lib.splitK, Lib.index_one, if_neg hne, e, Nat.add_zero, List.length_singleton, h3, if_pos rfl, h1, ← h2, ih _ hl2]
theorem splitB_A (c : UInt8) (l : List UInt8) : Lib.splitB ⟨#[c]⟩ 0 (Lib.countB (strB l) ⟨#[c]⟩) (strB l) = (splitA c [] l).map strB := by
  have h := Lib.splitB_data ⟨#[c]⟩ 0 (Lib.countB (strB l) ⟨#[c]⟩) (strB l)
  have hd : (strB l).data.toList = l := by unfold strB; simp
  have hk : Lib.countB (strB l) ⟨#[c]⟩ = l.count c := by
    show Lib.count (strB l).data.toList [c] = _
    rw [Lib.count_one, hd]
  have hs : (⟨#[c]⟩ : ByteArray).data.toList = [c] := rfl
  rw [hd, hk, hs, splitK_A c _ l (Nat.le_refl _)] at h
  rw [hk, ← h, List.map_map]
  have e : (strB ∘ fun x : ByteArray => x.data.toList) = id := by funext x; exact strB_self x
  rw [e, List.map_id]
set_option maxRecDepth 100000 in
theorem Split_one (l : List UInt8) (c : UInt8) (w : World) (hl : l.length < 4294967281) :
    Calls Tryd.prog 153 #[.string (strB l), .string ⟨#[c]⟩] w fun e w' => e = .returned (.slice (some ⟨w.heap.size, 0, none⟩) ((splitA c [] l).map strB).length ((splitA c [] l).map strB).length) ∧ w' = w.alloc (.cells (((splitA c [] l).map strB).map Value.string).toArray 9) := by
  have h1 : 1 ≤ (⟨#[c]⟩ : ByteArray).size := Nat.le_refl 1
  have hs : (strB l).size < 4294967281 := by rw [strB_size]; exact hl
  have hle := Lib.countB_le ⟨#[c]⟩ h1 (strB l).size (strB l) (Nat.le_refl _)
  have hlen := Lib.splitB_all ⟨#[c]⟩ h1 0 _ (strB l) rfl
  have hI : ∀ (x : ByteArray) (k : Array Value), x.size ≤ (strB l).size → Calls Tryd.prog 89 #[.string x, .string ⟨#[c]⟩] (w.alloc (.cells k 9)) fun e w' => e = .returned (.int .i64 (Lib.indexB x ⟨#[c]⟩)) ∧ w' = w.alloc (.cells k 9) := fun x k _ => by
    have h := Tryd.strings_Index_one x c (w.alloc (.cells k 9))
    rw [← Lib.index_one] at h
    exact h
  have hC : Calls Tryd.prog 192 #[.string (strB l), .string ⟨#[c]⟩] w fun e w' => e = .returned (.int .i64 (Lib.countB (strB l) ⟨#[c]⟩)) ∧ w' = w := by
    refine (Tryd.strings_Count_one (strB l) c w).mono fun e w' ⟨he, hw⟩ => ⟨?_, hw⟩
    rw [he]
    show _ = Ending.returned (Value.int .i64 ((Lib.count (strB l).data.toList [c] : Nat) : Int))
    rw [Lib.count_one]
    rfl
  have CG := Any.strings_genSplit_core Tryd.lays221 (by kernel_rfl) (strB l) ⟨#[c]⟩ 0 (-1) (Lib.countB (strB l) ⟨#[c]⟩ + 1) w hs h1 (Nat.zero_le _) hI hC (by decide) (by decide) (by rw [if_pos (by decide)]; omega)
  rw [Nat.add_sub_cancel, hlen] at CG
  have e2 : Lib.cellsOf (Lib.splitB ⟨#[c]⟩ 0 (Lib.countB (strB l) ⟨#[c]⟩) (strB l)) (Lib.countB (strB l) ⟨#[c]⟩ + 1) = ((Lib.splitB ⟨#[c]⟩ 0 (Lib.countB (strB l) ⟨#[c]⟩) (strB l)).map Value.string).toArray := by rw [← hlen]; exact Lib.cellsOf_full _
  rw [e2, ← hlen, splitB_A] at CG
  generalize (splitA c [] l).map strB = xs at CG ⊢
  have CG' := Aside0.mk (show Calls Tryd.prog 175 #[.string (strB l), .string ⟨#[c]⟩, .int .i64 0, .int .i64 (-1)] w fun e w' => e = .returned (.slice (some ⟨w.heap.size, 0, none⟩) xs.length xs.length) ∧ w' = w.alloc (.cells (xs.map Value.string).toArray 9) from CG)
  clear CG e2 hlen hle hI hC hs hl h1
  go_enter Tryd.func153, Tryd.ntmps153
  go_wp2_with (fail)
  (with_reducible refine (CG'.out).mono ?_)
  rintro e w1 ⟨rfl, hw⟩
  go_wp2
  go_ret
  exact ⟨rfl, by first | rfl | exact hw⟩
def strings_Split.f (a0 a1 : ByteArray) : Option (List ByteArray) := if a1.size = 1 ∧ a0.size < 4294967281 then some ((splitA (a1.data.toList.headD 0) [] a0.data.toList).map strB) else none
theorem strings_Split.calls (a0 a1 : ByteArray) (r1 : List ByteArray) (w : World) (h : strings_Split.f a0 a1 = some r1) :
    Calls Tryd.prog 153 #[.string a0, .string a1] w fun e w' => ∃ v0_ : Value, e = .returned v0_ ∧ Kd.R Kd.string 9 w' w.heap.size (fun _ => True) v0_ r1 ∧ Below w.heap.size w w' := by
  unfold strings_Split.f at h
  split at h
  case isFalse => cases h
  rename_i hc
  obtain rfl := Option.some.inj h
  have e := one_byte a1 hc.1
  generalize a1.data.toList.headD 0 = c at e
  subst e
  have hl : a0.data.toList.length = a0.size := Array.length_toList
  have CS := Split_one a0.data.toList c w (by omega)
  have hle : ((splitA c [] a0.data.toList).map strB).length ≤ 9223372036854775807 := by
    rw [← splitB_A, Lib.splitB_all ⟨#[c]⟩ (Nat.le_refl 1) 0 _ _ rfl, strB_self]
    have := Lib.countB_le ⟨#[c]⟩ (Nat.le_refl 1) a0.size a0 (Nat.le_refl _)
    omega
  rw [strB_self] at CS
  generalize (splitA c [] a0.data.toList).map strB = xs at CS hle ⊢
  refine CS.mono ?_
  rintro e w' ⟨rfl, rfl⟩
  exact ⟨_, rfl, Kd.R_of_own (own_lit_of (enc := Value.string) w w.heap.size 9 xs (Nat.le_refl _) hle) (fun _ _ => trivial), below_alloc (Below.refl _ _) _⟩
def spec_l01Cut.f (a0 : ByteArray) (a1 : Int) : Option (List ByteArray) := if 0 ≤ a1 ∧ a1 < 256 ∧ a0.size < 4398046511104 then some ((splitA (UInt8.ofNat a1.toNat) [] a0.data.toList).map strB) else none
theorem spec_l01Cut.calls (a0 : ByteArray) (a1 : Int) (r1 : List ByteArray) (w : World) (h : spec_l01Cut.f a0 a1 = some r1) :
    Calls Tryd.prog 123 #[.string a0, .int .u8 a1] w fun e w' => ∃ v0_ : Value, e = .returned v0_ ∧ Kd.R Kd.string 9 w' w.heap.size (fun _ => True) v0_ r1 ∧ Below w.heap.size w w' := by
  unfold spec_l01Cut.f at h
  split at h
  case isFalse => cases h
  rename_i hc
  obtain rfl := Option.some.inj h
  obtain ⟨n, rfl⟩ := Int.eq_ofNat_of_zero_le hc.1
  have hl : a0.data.toList.length = a0.size := Array.length_toList
  have hn : (UInt8.ofNat n).toNat = n := by
    rw [UInt8.toNat_ofNat']
    omega
  have := PCut.spec_l01Cut.calls _ (strB a0.data.toList) _ _ w (spec_cut (UInt8.ofNat n) a0.data.toList (by omega))
  rw [strB_self, hn] at this
  exact this
def xCut.f (a0 a1 : ByteArray) : Option (ByteArray × ByteArray × Bool) := if a1.size = 1 ∧ a0.size < 4611686018427387904 then some (strB (before (a1.data.toList.headD 0) a0.data.toList), strB (after (a1.data.toList.headD 0) a0.data.toList), hasB (a1.data.toList.headD 0) a0.data.toList) else none
theorem xCut.calls (a0 a1 : ByteArray) (r1 r2 : ByteArray) (r3 : Bool) (w : World) (h : xCut.f a0 a1 = some (r1, r2, r3)) :
    Calls Tryd.prog 51 #[.string a0, .string a1] w fun e w' => e = .returned (.tuple #[.string r1, .string r2, .bool r3]) ∧ Drawn0 w w' := by
  unfold xCut.f at h
  split at h
  case isFalse => cases h
  rename_i hc
  have h1 := Option.some.inj h
  obtain ⟨rfl, h2⟩ := Prod.mk.inj h1
  obtain ⟨rfl, rfl⟩ := Prod.mk.inj h2
  have e := one_byte a1 hc.1
  generalize a1.data.toList.headD 0 = c at e
  subst e
  have hl : a0.data.toList.length = a0.size := Array.length_toList
  have := Cut_one a0.data.toList c w (by omega)
  rw [strB_self] at this
  exact this
end Go.Proofs.YtlfgkibfhhifmaaDoor

/- The check number and the decimal digits: the plain laws. -/
import Derived.Test.YtlfgkibfhhifmaaDoorPDecx1
import Derived.Test.YtlfgkibfhhifmaaDoorText
namespace Go.Proofs.YtlfgkibfhhifmaaDoor
open Go.RowKit Go.Proofs.YtlfgkibfhhifmaaDoorW.PrintWords Go.Proofs.YtlfgkibfhhifmaaDoorW.PrintLast Go.Proofs.YtlfgkibfhhifmaaDoorW.PrintMore Go.Proofs.YtlfgkibfhhifmaaDoor.PDec
def chk : Nat → List UInt8 → Nat
  | n, [] => n
  | n, c :: l => chk ((977 * n + c.toNat + 233) % 65003) l
theorem chk_lt (n : Nat) (l : List UInt8) (h : n < 65003) : chk n l < 65003 := by
  induction l generalizing n with
  | nil => exact h
  | cons c l ih => exact ih _ (Nat.mod_lt _ (by omega))
theorem bt_here (pre post : List UInt8) (c : UInt8) : bt (strB (pre ++ c :: post)) (pre.length : Int) = (c.toNat : Int) := by
  have h : (pre.length : Int).toNat < (strB (pre ++ c :: post)).size := by simp [strB, ByteArray.size]
  unfold bt
  rw [dif_pos h]
  congr 1
  show ((strB (pre ++ c :: post)).data[(pre.length : Int).toNat]'h).toNat = _
  simp [strB]
theorem strB_size (l : List UInt8) : (strB l).size = l.length := by simp [strB, ByteArray.size]
theorem strB_self (s : ByteArray) : strB s.data.toList = s := by
  unfold strB; simp
theorem chk_step (n : Nat) (c : UInt8) (h : n < 65003) : Int.tmod (wrap64 ((wrap64 ((wrap64 (977 * (n : Int))) + (wrap64 (c.toNat : Int)))) + 233)) 65003 = (((977 * n + c.toNat + 233) % 65003 : Nat) : Int) := by
  have hc := c.toNat_lt
  have e1 : wrap64 (977 * (n : Int)) = ((977 * n : Nat) : Int) := by unfold wrap64; omega
  have e2 : wrap64 (c.toNat : Int) = (c.toNat : Int) := by unfold wrap64; omega
  rw [e1, e2]
  have e3 : wrap64 (((977 * n : Nat) : Int) + (c.toNat : Int)) = ((977 * n + c.toNat : Nat) : Int) := by unfold wrap64; omega
  rw [e3]
  have e4 : wrap64 (((977 * n + c.toNat : Nat) : Int) + 233) = ((977 * n + c.toNat + 233 : Nat) : Int) := by unfold wrap64; omega
  rw [e4]
  rfl
theorem spec_chk_rounds (pre post : List UInt8) (n k : Nat) (hn : n < 65003) (hl : (pre ++ post).length < 4611686018427387904) :
    spec_l01Check.l0 (k + post.length + 1) (n : Int) (strB (pre ++ post)) (pre.length : Int) = some ((chk n post : Nat) : Int) := by
  induction post generalizing pre n with
  | nil => rw [spec_l01Check.l0, if_neg (by rw [strB_size]; simp)]; rfl
  | cons c post ih =>
    simp only [List.length_append, List.length_cons] at hl
    rw [show k + (c :: post).length + 1 = (k + post.length + 1) + 1 by simp; omega]
    rw [spec_l01Check.l0, if_pos (by rw [strB_size]; simp; omega), if_pos (by omega), bt_here, chk_step n c hn]
    have e2 : wrap64 ((pre.length : Int) + 1) = ((pre ++ [c]).length : Int) := by
      unfold wrap64; simp only [List.length_append, List.length_singleton]; omega
    rw [e2]
    have := ih (pre ++ [c]) ((977 * n + c.toNat + 233) % 65003) (Nat.mod_lt _ (by omega)) (by simp; omega)
    rw [List.append_assoc, List.singleton_append] at this
    exact this
theorem spec_chk (s : List UInt8) (n k : Nat) (hn : n < 65003) (hl : s.length < 4611686018427387904) : spec_l01Check.f (k + s.length + 1) (n : Int) (strB s) = some ((chk n s : Nat) : Int) := by
  have := spec_chk_rounds [] s n k hn (by simpa using hl)
  simpa [spec_l01Check.f] using this
theorem impl_chk_rounds (pre post : List UInt8) (n k : Nat) (hn : n < 65003) (hl : (pre ++ post).length < 4611686018427387904) :
    impl_CheckOf.l0 (k + post.length + 1) (n : Int) (strB (pre ++ post)) ((strB (pre ++ post)).size : Int) (pre.length : Int) = some (((chk n post : Nat) : Int), true) := by
  induction post generalizing pre n with
  | nil => rw [impl_CheckOf.l0, if_neg (by rw [strB_size]; simp)]; rfl
  | cons c post ih =>
    simp only [List.length_append, List.length_cons] at hl
    rw [show k + (c :: post).length + 1 = (k + post.length + 1) + 1 by simp; omega]
    rw [impl_CheckOf.l0, if_pos (by rw [strB_size]; simp; omega), if_pos (by omega), if_pos (by rw [strB_size]; simp; omega), bt_here, chk_step n c hn]
    have e2 : wrap64 ((pre.length : Int) + 1) = ((pre ++ [c]).length : Int) := by
      unfold wrap64; simp only [List.length_append, List.length_singleton]; omega
    rw [e2]
    have := ih (pre ++ [c]) ((977 * n + c.toNat + 233) % 65003) (Nat.mod_lt _ (by omega)) (by simp; omega)
    rw [List.append_assoc, List.singleton_append] at this
    exact this
theorem impl_chk (s : List UInt8) (n k : Nat) (hn : n < 65003) (hl : s.length < 4611686018427387904) : impl_CheckOf.f (k + s.length + 1) (n : Int) (strB s) = some (((chk n s : Nat) : Int), true) := by
  have := impl_chk_rounds [] s n k hn (by simpa using hl)
  unfold impl_CheckOf.f impl_within.f
  rw [if_pos (by omega)]
  simp only [Option.bind_some]
  rw [if_pos (by simp; omega)]
  simpa using this
theorem impl_dec (n : Nat) (h : n < 65003) : impl_Decimal.f (n : Int) = some (strB (Lib.itoa (n : Int))) := by
  unfold impl_Decimal.f xFormatInt.f
  rw [if_pos (by omega), if_neg (by omega), if_pos rfl]
  rfl
theorem dec_first (k : Nat) (x0 : Int) (acc : List Int) (m : Nat) (ha : acc = [] ∨ m ≠ 0) : spec_l01Dec.l0 (k + 1) x0 acc (m : Int) = spec_l01Dec.j1 k x0 acc (m : Int) true := by
  rw [spec_l01Dec.l0]
  rcases ha with ha | ha
  · rw [if_pos (by rw [ha]; simp)]
  · have e : ((m : Int) != 0) = true := by simp; omega
    rw [e]
    split <;> rfl
theorem dec_last (k : Nat) (x0 : Int) (acc : List Int) (hx : 0 ≤ x0) (ha : acc ≠ []) : spec_l01Dec.l0 (k + 2) x0 acc 0 = some (strOfNums acc) := by
  have e : ((0 : Int) != 0) = false := by simp
  have hn : ¬ (acc.length : Int) = 0 := by
    intro h
    exact ha (List.eq_nil_of_length_eq_zero (by omega))
  rw [spec_l01Dec.l0, if_neg hn, e, spec_l01Dec.j1, if_neg (by simp), if_neg (by omega)]
theorem dec_mid (k : Nat) (x0 : Int) (acc : List Int) (m : Nat) (hs : m < 4611686018427387904) (hl : acc.length ≤ 40) :
    spec_l01Dec.j1 (k + 1) x0 acc (m : Int) true = spec_l01Dec.l0 k x0 (((48 + m % 10 : Nat) : Int) :: acc) ((m / 10 : Nat) : Int) := by
  have e1 : Int.tmod (m : Int) 10 = ((m % 10 : Nat) : Int) := by rw [Int.tmod_eq_emod_of_nonneg (by omega)]; omega
  have e2 : Int.tdiv (m : Int) 10 = ((m / 10 : Nat) : Int) := by rw [Int.tdiv_eq_ediv_of_nonneg (by omega)]; omega
  have e3 : (wrap64 (48 + ((m % 10 : Nat) : Int))) % 256 = ((48 + m % 10 : Nat) : Int) := by unfold wrap64; omega
  have e4 : wrap64 ((m / 10 : Nat) : Int) = ((m / 10 : Nat) : Int) := by unfold wrap64; omega
  rw [spec_l01Dec.j1, if_pos rfl, e1, e2, if_neg (by omega), e3, e4]
  rw [Option.bind_some, if_pos (by simp only [List.length_singleton]; omega)]
  rfl
theorem dec_step (k : Nat) (x0 : Int) (acc : List Int) (m : Nat) (ha : acc = [] ∨ m ≠ 0) (hs : m < 4611686018427387904) (hl : acc.length ≤ 40) :
    spec_l01Dec.l0 (k + 2) x0 acc (m : Int) = spec_l01Dec.l0 k x0 (((48 + m % 10 : Nat) : Int) :: acc) ((m / 10 : Nat) : Int) :=
  (dec_first (k + 1) x0 acc m ha).trans (dec_mid k x0 acc m hs hl)
theorem dg_nat (m : Nat) (h : m < 10) : ((UInt8.ofNat (48 + m)).toNat : Int) = ((48 + m : Nat) : Int) := by
  rw [UInt8.toNat_ofNat']
  omega
theorem dec_acc (x0 : Int) (hx : 0 ≤ x0) (j m k : Nat) (acc : List Int) (hm : m < 10 ^ (j + 1)) (hs : m < 4611686018427387904) (ha : acc = [] ∨ m ≠ 0) (hl : acc.length + j ≤ 30) :
    spec_l01Dec.l0 (k + 2 * j + 4) x0 acc (m : Int) = some (strOfNums ((Lib.decDigits m).map (fun c => (c.toNat : Int)) ++ acc)) := by
  induction j generalizing m acc k with
  | zero =>
    have h10 : m < 10 := by simpa using hm
    rw [show k + 2 * 0 + 4 = (k + 2) + 2 by omega, dec_step _ _ _ _ ha hs (by omega), show m / 10 = 0 by omega]
    rw [show ((0 : Nat) : Int) = 0 by rfl, dec_last k x0 _ hx (by simp), Lib.decDigits_one h10, Nat.mod_eq_of_lt h10]
    rw [List.map_singleton, dg_nat m h10]
    rfl
  | succ j ih =>
    rw [show k + 2 * (j + 1) + 4 = (k + 2 * j + 4) + 2 by omega, dec_step _ _ _ _ ha hs (by omega)]
    by_cases h10 : m < 10
    · rw [show m / 10 = 0 by omega, show ((0 : Nat) : Int) = 0 by rfl, show k + 2 * j + 4 = (k + 2 * j + 2) + 2 by omega, dec_last _ x0 _ hx (by simp), Lib.decDigits_one h10, Nat.mod_eq_of_lt h10]
      rw [List.map_singleton, dg_nat m h10]
      rfl
    · have hlt : m / 10 < 10 ^ (j + 1) := Nat.div_lt_of_lt_mul (by rw [Nat.pow_succ] at hm; omega)
      rw [ih (m / 10) k _ hlt (by omega) (.inr (by omega)) (by simp only [List.length_cons]; omega)]
      rw [show Lib.decDigits m = Lib.decDigits (m / 10) ++ [UInt8.ofNat (48 + m % 10)] by rw [Lib.decDigits, dif_neg h10]]
      rw [List.map_append, List.map_singleton, dg_nat _ (Nat.mod_lt _ (by omega)), List.append_assoc]
      rfl
theorem spec_dec (n : Nat) (h : n < 65003) : spec_l01Dec.f 12 (n : Int) = some (strB (Lib.itoa (n : Int))) := by
  have e := dec_acc (n : Int) (by omega) 4 n 0 [] (by simp; omega) (by omega) (.inl rfl) (by simp)
  have e2 : Lib.itoa (n : Int) = Lib.decDigits n := by unfold Lib.itoa; rw [if_neg (by omega), Int.toNat_natCast]
  rw [List.append_nil, strOfNums_hex] at e
  rw [e2]
  exact e
end Go.Proofs.YtlfgkibfhhifmaaDoor

/- What the texts of numbers are: the plain laws, no program in sight. -/
import Derived.Test.YtlfgkibfhhifmaaDoorPTxtx1
namespace Go.Proofs.YtlfgkibfhhifmaaDoor
open Go.RowKit Go.Proofs.YtlfgkibfhhifmaaDoorW.PrintWords Go.Proofs.YtlfgkibfhhifmaaDoorW.PrintLast Go.Proofs.YtlfgkibfhhifmaaDoorW.PrintMore Go.Proofs.YtlfgkibfhhifmaaDoor.PTxt
/-- The text of one number. -/
def numL (b : Nat) : List UInt8 := hex8 (canon b)
/-- The text of numbers. -/
def numsL (xs : List Nat) : List UInt8 := if xs = [] then [110, 111, 110, 101] else Lib.join (xs.map numL) [44]
def strB (l : List UInt8) : ByteArray := ⟨l.toArray⟩
def digits : Nat → Nat → List UInt8
  | 0, n => [hexD n]
  | k + 1, n => digits k (n / 16) ++ [hexD (n % 16)]
theorem digits_zero (k : Nat) : digits k 0 = List.replicate (k + 1) 48 := by
  induction k with
  | zero => rfl
  | succ k ih =>
    have e : List.replicate (k + 1 + 1) (48 : UInt8) = List.replicate (k + 1) 48 ++ [48] := List.replicate_succ'
    rw [digits, show 0 / 16 = 0 from rfl, ih, e]; rfl
theorem hex_pad (k n : Nat) (h : n < 16 ^ (k + 1)) : List.replicate (k + 1 - (hexL n).length) 48 ++ hexL n = digits k n := by
  induction k generalizing n with
  | zero => rw [hexL_small n (by simpa using h)]; rfl
  | succ k ih =>
    rcases Nat.lt_or_ge n 16 with h16 | h16
    · rw [hexL_small n h16, digits, Nat.div_eq_of_lt h16, digits_zero, Nat.mod_eq_of_lt h16]; simp
    · have hd : n / 16 < 16 ^ (k + 1) := Nat.div_lt_of_lt_mul (by rw [Nat.mul_comm]; rw [Nat.pow_succ] at h; exact h)
      rw [hexL_step n h16, digits, ← ih _ hd, List.length_append]
      simp only [List.length_singleton, ← List.append_assoc]
      rw [show k + 1 + 1 - ((hexL (n / 16)).length + 1) = k + 1 - (hexL (n / 16)).length by omega]
theorem hex8_digits (n : Nat) (h : n < 4294967296) : hex8 n = digits 7 n := hex_pad 7 n (by simpa using h)
theorem and15_i64 (m : Nat) (hm : m < 4294967296) : Go.bits BinOp.and IntKind.i64 (m : Int) 15 = ((m % 16 : Nat) : Int) := by
  have h1 : (BitVec.ofInt 64 (m : Int)).toNat = m := by
    rw [BitVec.ofInt_natCast, BitVec.toNat_ofNat]; exact Nat.mod_eq_of_lt (by omega)
  have h2 : (BitVec.ofInt 64 15).toNat = 15 := by decide
  have e : m &&& 15 = m % 16 := Nat.and_two_pow_sub_one_eq_mod m 4
  show IntKind.i64.wrap ((BitVec.ofInt 64 (m : Int) &&& BitVec.ofInt 64 15).toNat : Int) = _
  rw [BitVec.toNat_and, h1, h2, e, IntKind.wrap_i64]
  omega
theorem bt_hex (i : Nat) (h : i < 16) : bt (⟨#[48, 49, 50, 51, 52, 53, 54, 55, 56, 57, 97, 98, 99, 100, 101, 102]⟩ : ByteArray) (i : Int) = ((hexD i).toNat : Int) := by
  have : ∀ j : Fin 16, bt (⟨#[48, 49, 50, 51, 52, 53, 54, 55, 56, 57, 97, 98, 99, 100, 101, 102]⟩ : ByteArray) ((j.val : Nat) : Int) = ((hexD j.val).toNat : Int) := by decide +kernel
  exact this ⟨i, h⟩
theorem hex_round (k n j : Nat) (acc : List Int) (hn : n < 4294967296) (hj : j ≤ 7) (ha : acc.length ≤ 8) :
    spec_l01Hex.l0 (k + 1) (n : Int) acc (4 * (j : Int)) = spec_l01Hex.l0 k (n : Int) (acc ++ [((hexD (n / 16 ^ j % 16)).toNat : Int)]) (4 * (j : Int) - 4) := by
  have e1 : IntKind.u64.wrap (4 * (j : Int)) = 4 * (j : Int) := by rw [IntKind.wrap_u64]; omega
  have e2 : shr .i64 (n : Int) (4 * (j : Int)) = ((n / 16 ^ j : Nat) : Int) := by
    unfold shr
    rw [show (4 * (j : Int)).toNat = 4 * j by omega, show min (4 * j) (IntKind.i64).bits = 4 * j by show min (4 * j) 64 = 4 * j; omega]
    push_cast
    rw [show ((2 : Int) ^ (4 * j)) = 16 ^ j by rw [Int.pow_mul]; rfl]
  have hlt : n / 16 ^ j < 4294967296 := Nat.lt_of_le_of_lt (Nat.div_le_self _ _) hn
  have e3 : wrap64 (4 * (j : Int) - 4) = 4 * (j : Int) - 4 := by unfold wrap64; omega
  rw [spec_l01Hex.l0, if_pos (by omega), e1, if_pos (by omega), e2, and15_i64 _ hlt, if_pos (by omega), if_pos (by omega), if_pos (by omega), bt_hex _ (Nat.mod_lt _ (by omega)), e3]
theorem strOfNums_hex (l : List UInt8) : strOfNums (l.map fun c => (c.toNat : Int)) = strB l := by
  unfold strOfNums strB
  rw [List.map_map]
  congr 2
  have : ((fun n : Int => UInt8.ofNat n.toNat) ∘ fun c : UInt8 => (c.toNat : Int)) = id := by funext c; simp
  rw [this, List.map_id]
theorem spec_hex (k b : Nat) (hb : b < 4294967296) : spec_l01Hex.f (k + 9) b = some (strB (numL b)) := by
  have hbits : spec_l01Bits.f b = some ((canon b : Nat) : Int) := by
    unfold spec_l01Bits.f
    have hw : wrap64 (b : Int) = b := by unfold wrap64; omega
    have e : canon b = if ((FloatKind.f32).format.order b b == some .eq) = true then b else 2143289344 := rfl
    rw [hw, e]
    cases hx : ((FloatKind.f32).format.order b b == some .eq) <;> simp [bne, hx]
  have hc := canon_lt b hb
  unfold spec_l01Hex.f
  rw [hbits]
  unfold numL
  rw [hex8_digits _ hc]
  generalize canon b = n at hc
  show spec_l01Hex.l0 (k + 9) (n : Int) [] (4 * ((7 : Nat) : Int)) = _
  have r := hex_round
  rw [r (k + 8) n 7 [] hc (by omega) (by simp)]
  rw [show (4 * ((7 : Nat) : Int) - 4) = 4 * ((6 : Nat) : Int) by omega, r (k + 7) n 6 _ hc (by omega) (by simp)]
  rw [show (4 * ((6 : Nat) : Int) - 4) = 4 * ((5 : Nat) : Int) by omega, r (k + 6) n 5 _ hc (by omega) (by simp)]
  rw [show (4 * ((5 : Nat) : Int) - 4) = 4 * ((4 : Nat) : Int) by omega, r (k + 5) n 4 _ hc (by omega) (by simp)]
  rw [show (4 * ((4 : Nat) : Int) - 4) = 4 * ((3 : Nat) : Int) by omega, r (k + 4) n 3 _ hc (by omega) (by simp)]
  rw [show (4 * ((3 : Nat) : Int) - 4) = 4 * ((2 : Nat) : Int) by omega, r (k + 3) n 2 _ hc (by omega) (by simp)]
  rw [show (4 * ((2 : Nat) : Int) - 4) = 4 * ((1 : Nat) : Int) by omega, r (k + 2) n 1 _ hc (by omega) (by simp)]
  rw [show (4 * ((1 : Nat) : Int) - 4) = 4 * ((0 : Nat) : Int) by omega, r (k + 1) n 0 _ hc (by omega) (by simp)]
  rw [spec_l01Hex.l0, if_neg (by omega), ← strOfNums_hex]
  congr 2
  simp only [digits, List.map_append, List.map_cons, List.map_nil, List.nil_append, List.append_assoc, List.cons_append, Nat.div_div_eq_div_mul]
  have h7 : n / 16 ^ 7 % 16 = n / 16 ^ 7 := Nat.mod_eq_of_lt (by omega)
  rw [h7]
  simp only [Nat.reducePow, Nat.reduceMul, Nat.div_one]
/-- What is behind the first number. -/
def tailL (xs : List Nat) : List UInt8 := Lib.joinTail [44] (xs.map numL)
theorem numL_len (b : Nat) (hb : b < 4294967296) : (numL b).length = 8 := hex8_len _ (canon_lt b hb)
theorem tailL_len (xs : List Nat) (h : ∀ x ∈ xs, x < 4294967296) : (tailL xs).length = 9 * xs.length := by
  unfold tailL
  induction xs with
  | nil => rfl
  | cons x xs ih =>
    have := ih fun y hy => h y (List.mem_cons_of_mem _ hy)
    have h8 := numL_len x (h x List.mem_cons_self)
    simp only [Lib.joinTail, List.map_cons, List.flatten_cons, List.length_append, List.length_cons, List.length_nil] at this ⊢
    omega
theorem spec_rounds (xs ys : List Nat) (t : List UInt8) (k : Nat) (hx : ∀ x ∈ xs ++ ys, x < 4294967296) (hl : (xs ++ ys).length ≤ 70368744177664) (ht : t.length ≤ 9 * xs.length) :
    spec_l01NText.l0 (k + ys.length + 10) (xs ++ ys) (strB t) (xs.length : Int) = some (strB (t ++ tailL ys)) := by
  induction ys generalizing xs t with
  | nil =>
    rw [spec_l01NText.l0, if_neg (by simp)]
    simp [tailL, Lib.joinTail]
  | cons y ys ih =>
    have hy : y < 4294967296 := hx y (by simp)
    have h8 := numL_len y hy
    simp only [List.length_append, List.length_cons] at hl
    rw [show k + (y :: ys).length + 10 = (k + ys.length + 10) + 1 by simp; omega]
    rw [spec_l01NText.l0, if_pos (by simp; omega), if_pos (by omega)]
    have e : rdOf (0 : Nat) (xs ++ y :: ys) (xs.length : Int) = y := by simp [rdOf]
    rw [e, show k + ys.length + 10 = (k + ys.length + 1) + 9 by omega, spec_hex _ _ hy]
    simp only [Option.bind_some]
    have s1 : (strB (numL y)).size = 8 := by simp [strB, ByteArray.size, h8]
    have e2 : (⟨#[44]⟩ : ByteArray) ++ strB (numL y) = strB (44 :: numL y) := bytes_cat [44] (numL y)
    have e3 : strB t ++ strB (44 :: numL y) = strB (t ++ 44 :: numL y) := bytes_cat _ _
    have s2 : (strB (44 :: numL y)).size = 9 := by simp [strB, ByteArray.size, h8]
    have s3 : (strB t).size = t.length := by simp [strB, ByteArray.size]
    rw [s1, if_pos (by omega), e2, s2, s3, if_pos (by omega), e3]
    have ew : wrap64 ((xs.length : Int) + 1) = ((xs ++ [y]).length : Int) := by
      unfold wrap64; simp only [List.length_append, List.length_singleton]; omega
    rw [ew]
    have := ih (xs ++ [y]) (t ++ 44 :: numL y) (by simpa using hx) (by simp; omega) (by simp [h8]; omega)
    rw [List.append_assoc, List.singleton_append] at this
    rw [show (k + ys.length + 1) + 9 = k + ys.length + 10 by omega, this]
    simp [tailL, Lib.joinTail]
theorem spec_NText (xs : List Nat) (k : Nat) (hx : ∀ x ∈ xs, x < 4294967296) (hl : xs.length ≤ 70368744177664) :
    spec_l01NText.f (k + xs.length + 9) xs = some (strB (numsL xs)) := by
  unfold spec_l01NText.f
  cases xs with
  | nil => rfl
  | cons x xs =>
    have h0 : x < 4294967296 := hx x (by simp)
    rw [if_neg (by simp only [List.length_cons]; omega), if_pos (by simp only [List.length_cons]; omega)]
    have e : rdOf (0 : Nat) (x :: xs) 0 = x := rfl
    rw [e, spec_hex _ _ h0]
    simp only [Option.bind_some]
    have := spec_rounds [x] xs (numL x) k (by simpa using hx) (by simpa using hl) (by simp [numL_len x h0])
    rw [show k + (x :: xs).length + 9 = k + xs.length + 10 by simp; omega]
    rw [show (1 : Int) = (([x] : List Nat).length : Int) by rfl]
    rw [show x :: xs = [x] ++ xs from rfl, this]
    unfold numsL
    rw [if_neg (by simp)]
    simp only [List.singleton_append, List.map_cons, Lib.join_cons]
    rfl
theorem impl_rounds (xs ys : List Nat) (acc : List ByteArray) (k : Nat) (hx : ∀ x ∈ xs ++ ys, x < 4294967296) (hl : (xs ++ ys).length ≤ 256) (hacc : acc.length = xs.length) :
    impl_NumbersText.l0 (k + ys.length + 1) acc (xs ++ ys) ((xs ++ ys).length : Int) (xs.length : Int) = (impl_listOrNone.f (acc ++ ys.map fun y => strB (numL y))).bind fun t => some (t, true) := by
  induction ys generalizing xs acc with
  | nil =>
    rw [impl_NumbersText.l0, if_neg (by simp)]
    simp
  | cons y ys ih =>
    have hy : y < 4294967296 := hx y (by simp)
    simp only [List.length_append, List.length_cons] at hl
    rw [show k + (y :: ys).length + 1 = (k + ys.length + 1) + 1 by simp; omega]
    rw [impl_NumbersText.l0, if_pos (by simp; omega), if_pos (by omega), if_pos (by simp; omega)]
    have e : rdOf (0 : Nat) (xs ++ y :: ys) (xs.length : Int) = y := by simp [rdOf]
    have eh : impl_hexOf.f y = some (strB (numL y)) := by unfold impl_hexOf.f; rw [if_pos hy]; rfl
    rw [e, eh]
    simp only [Option.bind_some]
    rw [if_pos (by omega)]
    have ew : wrap64 ((xs.length : Int) + 1) = ((xs ++ [y]).length : Int) := by
      unfold wrap64; simp only [List.length_append, List.length_singleton]; omega
    rw [ew]
    have := ih (xs ++ [y]) (acc ++ [strB (numL y)]) (by simpa using hx) (by simp; omega) (by simp [hacc])
    rw [List.append_assoc, List.singleton_append] at this
    rw [this]
    simp
theorem impl_NText (xs : List Nat) (k : Nat) (hx : ∀ x ∈ xs, x < 4294967296) (hl : xs.length ≤ 256) :
    impl_NumbersText.f (k + xs.length + 1) xs = some (strB (numsL xs), true) := by
  unfold impl_NumbersText.f
  rw [if_neg (by omega)]
  have := impl_rounds [] xs [] k (by simpa using hx) (by simpa using hl) rfl
  simp only [List.nil_append] at this
  show impl_NumbersText.l0 _ [] xs _ (([] : List Nat).length : Int) = _
  rw [this]
  unfold impl_listOrNone.f
  cases xs with
  | nil => rfl
  | cons x xs =>
    rw [if_neg (by simp; omega)]
    unfold strings_Join.f
    have em : ((x :: xs).map fun y => strB (numL y)).map (·.data.toList) = (x :: xs).map numL := by
      rw [List.map_map]; congr 1
    have h9 := tailL_len xs fun y hy => hx y (List.mem_cons_of_mem _ hy)
    have h8 := numL_len x (hx x List.mem_cons_self)
    simp only [List.length_cons] at hl
    have el : (Lib.join ((x :: xs).map numL) [44]).length ≤ 140737488355328 := by
      rw [List.map_cons, Lib.join_cons, List.length_append]
      unfold tailL at h9
      omega
    rw [em]
    rw [if_pos ⟨by simp; omega, el⟩]
    unfold numsL
    rw [if_neg (by simp)]
    rfl
end Go.Proofs.YtlfgkibfhhifmaaDoor

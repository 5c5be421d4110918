/- Eight small hexadecimal signs as a number: the plain laws. -/
import Derived.Test.YtlfgkibfhhifmaaDoorPar
import Derived.Test.YtlfgkibfhhifmaaDoorSpl
namespace Go.Proofs.YtlfgkibfhhifmaaDoor
open Go.RowKit Go.Proofs.YtlfgkibfhhifmaaDoorW.PrintWords Go.Proofs.YtlfgkibfhhifmaaDoorW.PrintLast Go.Proofs.YtlfgkibfhhifmaaDoorW.PrintMore
/-- The value of a small hexadecimal sign. -/
def hexVal (c : UInt8) : Option Nat := if 48 ≤ c.toNat ∧ c.toNat ≤ 57 then some (c.toNat - 48) else if 97 ≤ c.toNat ∧ c.toNat ≤ 102 then some (c.toNat - 87) else none
def hexAll (acc : Nat) : List UInt8 → Option Nat
  | [] => some acc
  | c :: r => (hexVal c).bind fun d => hexAll (16 * acc + d) r
/-- The number that eight small hexadecimal signs tell. -/
def rd8 (l : List UInt8) : Option Nat := if l.length = 8 then (hexAll 0 l).bind fun n => if canon n = n then some n else none else none
theorem hexVal_lt {c : UInt8} {d : Nat} (h : hexVal c = some d) : d < 16 := by
  unfold hexVal at h
  split at h
  · have := Option.some.inj h; omega
  · split at h
    · have := Option.some.inj h; omega
    · cases h
theorem hexVal_D (i : Nat) (h : i < 16) : hexVal (hexD i) = some i := by
  have : ∀ j : Fin 16, hexVal (hexD j.val) = some j.val := by decide +kernel
  exact this ⟨i, h⟩
theorem hexD_Val {c : UInt8} {d : Nat} (h : hexVal c = some d) : hexD d = c := by
  have h2 : ∀ j : Fin 256, (match hexVal (UInt8.ofNat j.val) with | some d => hexD d == UInt8.ofNat j.val | none => true) = true := by decide +kernel
  have h3 := h2 ⟨c.toNat, c.toNat_lt⟩
  rw [show UInt8.ofNat c.toNat = c from UInt8.ofNat_toNat, h] at h3
  exact beq_iff_eq.1 h3
theorem low_let {c : UInt8} (h : 97 ≤ c.toNat ∧ c.toNat ≤ 102) : lowN c = c.toNat := by
  have h2 : ∀ j : Fin 256, (if 97 ≤ j.val ∧ j.val ≤ 102 then lowN (UInt8.ofNat j.val) == j.val else true) = true := by decide +kernel
  have h3 := h2 ⟨c.toNat, c.toNat_lt⟩
  rw [show UInt8.ofNat c.toNat = c from UInt8.ofNat_toNat, if_pos h] at h3
  exact beq_iff_eq.1 h3
theorem hexAll_cat (a b : List UInt8) (acc : Nat) : hexAll acc (a ++ b) = (hexAll acc a).bind fun x => hexAll x b := by
  induction a generalizing acc with
  | nil => rfl
  | cons c a ih =>
    simp only [List.cons_append, hexAll]
    cases hexVal c with
    | none => rfl
    | some d => simp only [Option.bind_some]; exact ih _
theorem hexAll_ge (l : List UInt8) (acc n : Nat) (h : hexAll acc l = some n) : acc ≤ n := by
  induction l generalizing acc with
  | nil => rw [hexAll] at h; have := Option.some.inj h; omega
  | cons c l ih =>
    rw [hexAll] at h
    cases hc : hexVal c with
    | none => rw [hc] at h; cases h
    | some d =>
      rw [hc, Option.bind_some] at h
      have := ih _ h
      omega
theorem hexAll_digits (k n : Nat) (h : n < 16 ^ (k + 1)) : hexAll 0 (digits k n) = some n := by
  induction k generalizing n with
  | zero =>
    have h1 : n < 16 := by simpa using h
    simp [digits, hexAll, hexVal_D n h1]
  | succ k ih =>
    have hd : n / 16 < 16 ^ (k + 1) := Nat.div_lt_of_lt_mul (by rw [Nat.mul_comm]; rw [Nat.pow_succ] at h; exact h)
    rw [digits, hexAll_cat, ih _ hd, Option.bind_some, hexAll, hexVal_D _ (Nat.mod_lt _ (by omega)), Option.bind_some, hexAll]
    congr 1
    omega
theorem digits_of (l : List UInt8) : ∀ (k n : Nat), l.length = k + 1 → hexAll 0 l.reverse = some n → l.reverse = digits k n ∧ n < 16 ^ (k + 1) := by
  induction l with
  | nil => intro k n h _; simp at h
  | cons c l ih =>
    intro k n hl h
    rw [List.reverse_cons, hexAll_cat] at h
    cases hm : hexAll 0 l.reverse with
    | none => rw [hm] at h; cases h
    | some m =>
      rw [hm, Option.bind_some, hexAll] at h
      cases hc : hexVal c with
      | none => rw [hc] at h; cases h
      | some d =>
        rw [hc, Option.bind_some, hexAll] at h
        have hn : 16 * m + d = n := Option.some.inj h
        have hd := hexVal_lt hc
        rw [List.reverse_cons]
        cases k with
        | zero =>
          obtain rfl : l = [] := List.eq_nil_of_length_eq_zero (by simpa using hl)
          rw [List.reverse_nil, hexAll] at hm
          have hm0 : 0 = m := Option.some.inj hm
          have e : n = d := by omega
          rw [digits, e, hexD_Val hc]
          exact ⟨rfl, by simpa using hd⟩
        | succ k =>
          obtain ⟨h1, h2⟩ := ih k m (by simpa using hl) hm
          have e1 : n / 16 = m := by omega
          have e2 : n % 16 = d := by omega
          rw [digits, e1, e2, hexD_Val hc, h1]
          exact ⟨rfl, by rw [Nat.pow_succ]; omega⟩
theorem parse_hex (l : List UInt8) (acc n : Nat) (h : hexAll acc l = some n) (hn : n < 4294967296) : parse16 acc l = some (some n) := by
  induction l generalizing acc with
  | nil => rw [hexAll] at h; rw [parse16, Option.some.inj h]
  | cons c l ih =>
    rw [hexAll] at h
    cases hc : hexVal c with
    | none => rw [hc] at h; cases h
    | some d =>
      rw [hc, Option.bind_some] at h
      have hge := hexAll_ge l _ n h
      have h2 := ih _ h
      rw [parse16]
      unfold hexVal at hc
      split at hc
      · rename_i hd
        have e := Option.some.inj hc
        rw [if_pos hd, e, if_neg (by omega), Nat.mul_comm]
        exact h2
      · rename_i hd
        split at hc
        · rename_i hle
          have e := Option.some.inj hc
          have hlow := low_let hle
          rw [if_neg hd, hlow, if_pos hle, e, if_neg (by omega), Nat.mul_comm]
          exact h2
        · cases hc
theorem rdH_some (l : List UInt8) (n : Nat) (h : rd8 l = some n) : rdH l = (n, true) := by
  unfold rd8 at h
  split at h
  case isFalse => cases h
  rename_i hl
  cases hx : hexAll 0 l with
  | none => rw [hx] at h; cases h
  | some m =>
    rw [hx, Option.bind_some] at h
    split at h
    case isFalse => cases h
    rename_i hcan
    obtain rfl := Option.some.inj h
    have hd := digits_of l.reverse 7 m (by simpa using hl) (by rw [List.reverse_reverse]; exact hx)
    rw [List.reverse_reverse] at hd
    have hm : m < 4294967296 := by have := hd.2; omega
    have hp : pN l = some (some m) := by
      unfold pN
      rw [if_neg (by intro e; rw [e] at hl; simp at hl)]
      exact parse_hex l 0 m hx hm
    unfold rdH
    rw [hp]
    show (m, decide (hex8 (canon m) = l)) = _
    rw [hcan, hex8_digits m hm, decide_eq_true hd.1.symm]
theorem rdH_none (l : List UInt8) (h : rd8 l = none) : (rdH l).2 = false := by
  cases hb : (rdH l).2 with
  | false => rfl
  | true =>
    exfalso
    cases hp : pN l with
    | none =>
      have hr : rdH l = (0, false) := by unfold rdH; rw [hp]
      rw [hr] at hb; cases hb
    | some o =>
      cases o with
      | some n =>
        have hr : rdH l = (n, decide (hex8 (canon n) = l)) := by unfold rdH; rw [hp]
        rw [hr] at hb
        have e : hex8 (canon n) = l := of_decide_eq_true hb
        have hn := pN_lt hp
        have hc := canon_lt n hn
        rw [hex8_digits _ hc] at e
        have hx : hexAll 0 l = some (canon n) := by rw [← e]; exact hexAll_digits 7 _ (by simpa using hc)
        have hl : l.length = 8 := by rw [← e, ← hex8_digits _ hc]; exact hex8_len _ hc
        have hq : pN l = some (some (canon n)) := by
          unfold pN
          rw [if_neg (by intro e; rw [e] at hl; simp at hl)]
          exact parse_hex l 0 _ hx hc
        rw [hp] at hq
        have e2 : n = canon n := Option.some.inj (Option.some.inj hq)
        unfold rd8 at h
        rw [if_pos hl, hx, Option.bind_some, ← e2, if_pos e2.symm] at h
        cases h
      | none =>
        have hr : rdH l = (4294967295, false) := by unfold rdH; rw [hp]
        rw [hr] at hb; cases hb
/-- The numbers that texts tell: all, or none at all. -/
def rdAll : List (List UInt8) → Option (List Nat)
  | [] => some []
  | x :: r => (rd8 x).bind fun n => (rdAll r).map (n :: ·)
/-- The numbers with a text. -/
def rdNums (l : List UInt8) : Option (List Nat) := if l = [110, 111, 110, 101] then some [] else if 256 < (splitA 44 [] l).length then none else rdAll (splitA 44 [] l)
theorem rd8_lt {l : List UInt8} {n : Nat} (h : rd8 l = some n) : n < 4294967296 := by
  have h2 := rdH_some l n h
  cases hp : pN l with
  | none => unfold rdH at h2; rw [hp] at h2; exact absurd (Prod.mk.inj h2).2 (by simp)
  | some o =>
    cases o with
    | none => unfold rdH at h2; rw [hp] at h2; exact absurd (Prod.mk.inj h2).2 (by simp)
    | some m =>
      unfold rdH at h2
      rw [hp] at h2
      have e : m = n := (Prod.mk.inj h2).1
      rw [← e]
      exact pN_lt hp
theorem rdAll_lt {xs : List (List UInt8)} {ys : List Nat} (h : rdAll xs = some ys) : ys.length = xs.length ∧ ∀ y ∈ ys, y < 4294967296 := by
  induction xs generalizing ys with
  | nil => obtain rfl : [] = ys := Option.some.inj h; simp
  | cons x xs ih =>
    rw [rdAll] at h
    cases hx : rd8 x with
    | none => rw [hx] at h; cases h
    | some n =>
      rw [hx, Option.bind_some] at h
      cases hr : rdAll xs with
      | none => rw [hr] at h; cases h
      | some zs =>
        rw [hr] at h
        obtain rfl : n :: zs = ys := Option.some.inj h
        obtain ⟨h1, h2⟩ := ih hr
        refine ⟨by simp [h1], fun y hy => ?_⟩
        rcases List.mem_cons.1 hy with rfl | hy
        · exact rd8_lt hx
        · exact h2 y hy
end Go.Proofs.YtlfgkibfhhifmaaDoor

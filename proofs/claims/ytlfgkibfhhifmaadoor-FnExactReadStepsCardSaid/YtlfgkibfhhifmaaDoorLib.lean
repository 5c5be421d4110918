/- Contracts of the library's functions, in the form in which the printed texts call them. -/
import Derived.Test.YtlfgkibfhhifmaaDoorHex
import Derived.Test.YtlfgkibfhhifmaaDoorShelf
namespace Go.Proofs.YtlfgkibfhhifmaaDoor
open Go.RowKit Go.Proofs.YtlfgkibfhhifmaaDoorW.PrintWords Go.Proofs.YtlfgkibfhhifmaaDoorW.PrintLast Go.Proofs.YtlfgkibfhhifmaaDoorW.PrintMore
theorem internal_FormatInt_hex (n : Nat) (h1 : n ≤ 9223372036854775807) (w : World) (hG : GW w) :
    Calls Tryd.prog 127 #[.int .i64 n, .int .i64 16] w fun e w' => e = .returned (.string ⟨(hexL n).toArray⟩) ∧ Below w.heap.size w w' := by
  go_enter Tryd.func127, Tryd.ntmps127
  go_wp2_with (first | (go_at_call 163; refine (formatBits_hex n (by omega) _ hG.db16).mono ?_; rintro e w' ⟨rfl, hb⟩))
  go_ret
  exact ⟨rfl, hb⟩
theorem FormatInt_hex (n : Nat) (h1 : n ≤ 9223372036854775807) (w : World) (hG : GW w) :
    Calls Tryd.prog 92 #[.int .i64 n, .int .i64 16] w fun e w' => e = .returned (.string ⟨(hexL n).toArray⟩) ∧ Below w.heap.size w w' := by
  go_enter Tryd.func92, Tryd.ntmps92
  go_wp2_with (first | (go_at_call 127; refine (internal_FormatInt_hex n h1 _ hG).mono ?_; rintro e w' ⟨rfl, hb⟩))
  go_ret
  exact ⟨rfl, hb⟩
def xFormatInt.f (a0 a1 : Int) : Option ByteArray :=
  if -9223372036854775808 ≤ a0 ∧ a0 ≤ 9223372036854775807 then
    (if a1 = 16 then (if 0 ≤ a0 then some ⟨(hexL a0.toNat).toArray⟩ else none) else if a1 = 10 then some ⟨(Lib.itoa a0).toArray⟩ else none) else none
theorem xFormatInt.calls (a0 a1 : Int) (r : ByteArray) (w : World) (hG : GW w) (h : xFormatInt.f a0 a1 = some r) :
    Calls Tryd.prog 92 #[.int .i64 a0, .int .i64 a1] w fun e w' => e = .returned (.string r) ∧ Below w.heap.size w w' := by
  unfold xFormatInt.f at h
  split at h
  case isFalse => cases h
  rename_i hr
  split at h
  · rename_i e16
    subst e16
    split at h
    case isFalse => cases h
    rename_i h0
    obtain rfl := Option.some.inj h
    obtain ⟨n, rfl⟩ := Int.eq_ofNat_of_zero_le h0
    exact FormatInt_hex n (by omega) w hG
  · split at h
    case isFalse => cases h
    rename_i e10
    subst e10
    obtain rfl := Option.some.inj h
    refine (Tryd.strconv_FormatInt_10 a0 hr.1 hr.2 w hG.pow10).mono ?_
    rintro e w' ⟨rfl, k, os, rfl⟩
    exact ⟨rfl, Lib.below_grow _ w (Nat.le_refl _) k os⟩
def strings_Repeat.f (a0 : ByteArray) (a1 : Int) : Option ByteArray :=
  if 0 ≤ a1 ∧ a1 ≤ 9223372036854775807 ∧ a0.size * a1.toNat ≤ 140737488355328 then some ⟨(Lib.repeatL a0.data.toList a1.toNat).toArray⟩ else none
theorem strings_Repeat.calls (a0 : ByteArray) (a1 : Int) (r : ByteArray) (w : World) (h : strings_Repeat.f a0 a1 = some r) :
    Calls Tryd.prog 133 #[.string a0, .int .i64 a1] w fun e w' => e = .returned (.string r) ∧ Below w.heap.size w w' := by
  unfold strings_Repeat.f at h
  split at h
  case isFalse => cases h
  rename_i hc
  obtain rfl := Option.some.inj h
  obtain ⟨n, rfl⟩ := Int.eq_ofNat_of_zero_le hc.1
  exact Tryd.strings_Repeat a0 n w (by omega) (by simpa using hc.2.2)
def strings_Contains.f (a0 a1 : ByteArray) : Option Bool :=
  if a1.size = 1 then some (decide (0 ≤ Lib.indexByte a0.data.toList (a1.data.toList.headD 0))) else none
theorem one_byte (s : ByteArray) (h : s.size = 1) : s = ⟨#[s.data.toList.headD 0]⟩ := by
  obtain ⟨⟨l⟩⟩ := s
  match l, h with
  | [x], _ => rfl
theorem strings_Contains.calls (a0 a1 : ByteArray) (r : Bool) (w : World) (h : strings_Contains.f a0 a1 = some r) :
    Calls Tryd.prog 44 #[.string a0, .string a1] w fun e w' => e = .returned (.bool r) ∧ Below w.heap.size w w' := by
  unfold strings_Contains.f at h
  split at h
  case isFalse => cases h
  rename_i hc
  obtain rfl := Option.some.inj h
  have e := one_byte a1 hc
  generalize a1.data.toList.headD 0 = c at e
  subst e
  refine (Tryd.strings_Contains_one a0 c w).mono ?_
  rintro e w' ⟨rfl, rfl⟩
  exact ⟨rfl, Below.refl _ _⟩
theorem addr_plain {w : World} {ad : Addr} {v : Value} (h : w.cell? ad = some v) : ad = ⟨ad.block, ad.off, none⟩ := by
  obtain ⟨b, o, s⟩ := ad
  cases s with
  | none => rfl
  | some n =>
    unfold World.cell? at h
    split at h <;> simp at h
theorem strs_cells {w : World} {A : Option Addr} {xs : List ByteArray} (h : Kd.C Kd.string w A xs.length xs) (hn : 0 < xs.length) :
    ∃ b o, A = some ⟨b, o, none⟩ ∧ b < w.heap.size ∧ ∀ (j : Nat) x, xs[j]? = some x → w.cell? ⟨b, o + j, none⟩ = some (.string x) := by
  obtain ⟨ad, e, h0⟩ := Kd.at_string h 0 (by omega) (by omega)
  have h0' : w.cell? ad = some (.string (rdOf ByteArray.empty xs 0)) := h0
  have hp := addr_plain h0'
  have hb := World.block_lt_of_cell? w _ h0'
  obtain ⟨B, O, S⟩ := ad
  obtain rfl : S = none := by injection hp
  clear hp h0 h0'
  refine ⟨B, O, e, hb, fun j x hx => ?_⟩
  have hj : j < xs.length := (List.getElem?_eq_some_iff.1 hx).1
  obtain ⟨ad2, e2, h2⟩ := Kd.at_string h j (by omega) (by omega)
  obtain rfl : (⟨B, O, none⟩ : Addr) = ad2 := by rw [e] at e2; exact Option.some.inj e2
  have e3 : (⟨B, O, none⟩ : Addr).add (j : Int).toNat = ⟨B, O + j, none⟩ := by
    unfold Addr.add; split <;> simp_all
  rw [e3] at h2
  rw [h2]
  simp only [rdOf, Int.toNat_natCast, List.getD_eq_getElem?_getD, hx, Option.getD_some]
def strings_Join.f (l0 : List ByteArray) (a1 : ByteArray) : Option ByteArray :=
  if l0.length ≤ 140737488355328 ∧ (Lib.join (l0.map (·.data.toList)) a1.data.toList).length ≤ 140737488355328 then some ⟨(Lib.join (l0.map (·.data.toList)) a1.data.toList).toArray⟩ else none
theorem strings_Join.calls (A0 : Option Addr) (c0 : Nat) (l0 : List ByteArray) (a1 : ByteArray) (r : ByteArray) (w : World) (hr0 : Kd.C Kd.string w A0 l0.length l0) (hc0 : l0.length ≤ c0) (h : strings_Join.f l0 a1 = some r) :
    Calls Tryd.prog 134 #[.slice A0 l0.length c0, .string a1] w fun e w' => e = .returned (.string r) ∧ Below w.heap.size w w' := by
  unfold strings_Join.f at h
  split at h
  case isFalse => cases h
  rename_i hc
  obtain rfl := Option.some.inj h
  rcases Nat.eq_zero_or_pos l0.length with h0 | h0
  · obtain rfl := List.eq_nil_of_length_eq_zero h0
    refine (Tryd.strings_Join_none A0 c0 a1 w).mono ?_
    rintro e w' ⟨rfl, rfl⟩
    exact ⟨rfl, Below.refl _ _⟩
  · obtain ⟨b, o, rfl, hb, hcell⟩ := strs_cells hr0 h0
    exact Tryd.strings_Join b o c0 l0 a1 w hcell hb hc.1 hc0 hc.2
end Go.Proofs.YtlfgkibfhhifmaaDoor

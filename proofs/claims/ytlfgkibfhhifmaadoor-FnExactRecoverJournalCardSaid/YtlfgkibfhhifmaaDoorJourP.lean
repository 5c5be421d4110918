/- JournalOf: the plain laws. -/
import Derived.Test.YtlfgkibfhhifmaaDoorJourW
import Derived.Test.YtlfgkibfhhifmaaDoorPJrnx1
import Derived.Lib.IndexLaws
namespace Go.Proofs.YtlfgkibfhhifmaaDoor
open Go.RowKit Go.Proofs.YtlfgkibfhhifmaaDoorW.PrintWords Go.Proofs.YtlfgkibfhhifmaaDoorW.PrintLast Go.Proofs.YtlfgkibfhhifmaaDoorW.PrintMore
def hasNl (x : ByteArray) : Bool := decide (0 ≤ Lib.indexByte x.data.toList 10)
def noNl (xs : List ByteArray) : Bool := !xs.any hasNl
def okJ (xs : List ByteArray) : Bool := noNl xs && decide ((jourL 0 xs).length ≤ 16000)
theorem hasNl_iff (x : ByteArray) : hasNl x = true ↔ (10 : UInt8) ∈ x.data.toList := by
  unfold hasNl
  rw [decide_eq_true_eq]
  have hge := Lib.indexByte_ge x.data.toList 10
  constructor
  · intro h
    obtain ⟨o, ho⟩ := Int.eq_ofNat_of_zero_le h
    have := (Lib.indexByte_some ho).1
    exact List.mem_of_getElem? this
  · intro h
    obtain ⟨k, hk⟩ := List.mem_iff_getElem?.1 h
    rcases Int.lt_or_le (Lib.indexByte x.data.toList 10) 0 with h1 | h1
    · exact absurd hk (Lib.indexByte_none (by omega) k)
    · exact h1
theorem noNl_snoc (a : List ByteArray) (x : ByteArray) : noNl (a ++ [x]) = (noNl a && !hasNl x) := by
  simp [noNl, List.any_append]
theorem jourL_mono (xs : List ByteArray) (k : Nat) : (jourL 0 (xs.take k)).length ≤ (jourL 0 xs).length := by
  have key : ∀ (n : Nat) (a b : List ByteArray), (jourL n a).length ≤ (jourL n (a ++ b)).length := by
    intro n a
    induction a generalizing n with
    | nil => intro b; simp [jourL]
    | cons y a ih =>
      intro b
      have := ih (chk n y.data.toList) b
      simp only [List.cons_append, jourL, List.length_append]
      omega
  have := key 0 (xs.take k) (xs.drop k)
  rwa [List.take_append_drop] at this
/-- The least that the text of lines takes. -/
def least (xs : List ByteArray) : Nat := (xs.map fun x => x.size + 3).sum
theorem least_le (n : Nat) (xs : List ByteArray) (h : n < 65003) : least xs ≤ (jourL n xs).length := by
  induction xs generalizing n with
  | nil => simp [least]
  | cons x xs ih =>
    have h1 := ih (chk n x.data.toList) (chk_lt _ _ h)
    have h2 := (jline_len (chk n x.data.toList) x.data.toList (chk_lt _ _ h)).1
    have h4 : x.data.toList.length = x.size := Array.length_toList
    simp only [least, List.map_cons, List.sum_cons, jourL, List.length_append] at h1 ⊢
    omega
theorem spec_nl_rounds (xs : List ByteArray) (i : Nat) (x : ByteArray) (hx : xs[i]? = some x) (t : Int) (pre post : List UInt8) (he : x = strB (pre ++ post)) (k : Nat) (hi : i < 4611686018427387904) (hl : (pre ++ post).length < 4611686018427387904) :
    PJrn.spec_JournalOf.l1 (k + post.length + 1) xs t (i : Int) (pre.length : Int) = if (10 : UInt8) ∈ post then some ((⟨#[]⟩ : ByteArray), false) else PJrn.spec_JournalOf.l0 k xs t ((i + 1 : Nat) : Int) := by
  have hlt : i < xs.length := (List.getElem?_eq_some_iff.1 hx).1
  have hrd : rdOf ByteArray.empty xs (i : Int) = x := by simp [rdOf, List.getD_eq_getElem?_getD, hx]
  have ew : wrap64 ((i : Int) + 1) = ((i + 1 : Nat) : Int) := by unfold wrap64; omega
  induction post generalizing pre with
  | nil =>
    rw [show k + ([] : List UInt8).length + 1 = k + 1 from rfl, PJrn.spec_JournalOf.l1, if_pos (by omega), if_pos (by omega), hrd, he, if_neg (by rw [strB_size]; simp), ew]
    simp
  | cons c post ih =>
    simp only [List.length_append, List.length_cons] at hl
    rw [show k + (c :: post).length + 1 = (k + post.length + 1) + 1 by simp; omega]
    rw [PJrn.spec_JournalOf.l1, if_pos (by omega), if_pos (by omega), hrd, he, if_pos (by rw [strB_size]; simp; omega), if_pos (by omega), bt_here]
    have e2 : wrap64 ((pre.length : Int) + 1) = ((pre ++ [c]).length : Int) := by
      unfold wrap64; simp only [List.length_append, List.length_singleton]; omega
    by_cases hc : c = 10
    · rw [if_pos (by rw [hc]; rfl), if_pos (by rw [hc]; simp)]
    · have hcn : ¬ ((c.toNat : Int) = 10) := fun h => hc (UInt8.toNat_inj.1 (by rw [show (10 : UInt8).toNat = 10 from rfl]; omega))
      rw [if_neg hcn, e2]
      rw [ih (pre ++ [c]) (by rw [he]; simp) (by simp; omega)]
      have hmem : ((10 : UInt8) ∈ c :: post) ↔ ((10 : UInt8) ∈ post) := by
        rw [List.mem_cons]
        constructor
        · rintro (h | h)
          · exact absurd h.symm hc
          · exact h
        · exact .inr
      simp only [hmem]
def jourR (xs : List ByteArray) (b : Bool) : ByteArray × Bool := if b = true then (strB (jourL 0 xs), true) else ((⟨#[]⟩ : ByteArray), false)
theorem spec_j_rounds (qs ps xs : List ByteArray) (hxs : xs = ps ++ qs) (t : Nat) (ht : t ≤ 16000) (hn : xs.length ≤ 1048576) (hs : ∀ x ∈ xs, x.size ≤ 1048576) :
    ∃ k, PJrn.spec_JournalOf.l0 k xs (t : Int) (ps.length : Int) = some (jourR xs (noNl qs && decide (t + least qs ≤ 16000) && decide ((jourL 0 xs).length ≤ 16000))) := by
  induction qs generalizing ps t with
  | nil =>
    refine ⟨1, ?_⟩
    have hl : xs.length = ps.length := by rw [hxs]; simp
    rw [PJrn.spec_JournalOf.l0, if_neg (by omega)]
    unfold spec_l08Journal.f
    rw [if_pos ⟨hn, hs⟩, Option.bind_some, strB_size]
    by_cases h : (jourL 0 xs).length ≤ 16000
    · rw [if_neg (by omega)]
      simp [jourR, noNl, least, h, ht]
    · rw [if_pos (by omega)]
      simp [jourR, h]
  | cons x qs ih =>
    have hxi : xs[ps.length]? = some x := by rw [hxs]; simp
    have hlt : ps.length < xs.length := (List.getElem?_eq_some_iff.1 hxi).1
    have hsz : x.size ≤ 1048576 := hs x (List.mem_of_getElem? hxi)
    have hrd : rdOf ByteArray.empty xs (ps.length : Int) = x := by simp [rdOf, List.getD_eq_getElem?_getD, hxi]
    have ew : wrap64 ((t : Int) + wrap64 ((x.size : Int) + 3)) = ((t + x.size + 3 : Nat) : Int) := by unfold wrap64; omega
    have el : least (x :: qs) = x.size + 3 + least qs := by simp [least]
    by_cases hbig : t + x.size + 3 ≤ 16000
    · obtain ⟨k, hk⟩ := ih (ps ++ [x]) (by rw [hxs]; simp) (t + x.size + 3) hbig
      have e := spec_nl_rounds xs ps.length x hxi ((t + x.size + 3 : Nat) : Int) [] x.data.toList (by rw [List.nil_append, strB_self]) k (by omega) (by have h4 : x.data.toList.length = x.size := Array.length_toList; simp only [List.nil_append]; omega)
      refine ⟨k + x.data.toList.length + 1 + 1, ?_⟩
      rw [PJrn.spec_JournalOf.l0, if_pos (by omega), if_pos (by omega), hrd, ew, if_neg (by omega)]
      have e' : PJrn.spec_JournalOf.l1 (k + x.data.toList.length + 1) xs ((t + x.size + 3 : Nat) : Int) (ps.length : Int) 0 = if (10 : UInt8) ∈ x.data.toList then some ((⟨#[]⟩ : ByteArray), false) else PJrn.spec_JournalOf.l0 k xs ((t + x.size + 3 : Nat) : Int) ((ps.length + 1 : Nat) : Int) := e
      rw [e']
      have hh := hasNl_iff x
      cases hnl : hasNl x with
      | true =>
        rw [if_pos (hh.1 hnl)]
        simp [jourR, noNl, hnl]
      | false =>
        rw [if_neg (fun h => by rw [hh.2 h] at hnl; cases hnl)]
        have hl : (ps ++ [x]).length = ps.length + 1 := by simp
        rw [hl] at hk
        rw [hk]
        congr 2
        have e3 : noNl (x :: qs) = noNl qs := by simp [noNl, hnl]
        rw [e3, el]
        congr 2
        rw [show t + x.size + 3 + least qs = t + (x.size + 3 + least qs) by omega]
    · refine ⟨1, ?_⟩
      rw [PJrn.spec_JournalOf.l0, if_pos (by omega), if_pos (by omega), hrd, ew, if_pos (by omega)]
      have hf : decide (t + least (x :: qs) ≤ 16000) = false := by rw [decide_eq_false_iff_not]; omega
      rw [hf]
      simp [jourR]
theorem spec_jour (xs : List ByteArray) (hn : xs.length ≤ 1048576) (hs : ∀ x ∈ xs, x.size ≤ 1048576) :
    ∃ k, PJrn.spec_JournalOf.f k xs = some (jourR xs (okJ xs)) := by
  obtain ⟨k, hk⟩ := spec_j_rounds xs [] xs rfl 0 (by omega) hn hs
  refine ⟨k, ?_⟩
  have hk' : PJrn.spec_JournalOf.l0 k xs 0 0 = _ := hk
  unfold PJrn.spec_JournalOf.f
  rw [hk']
  congr 2
  unfold okJ
  have := least_le 0 xs (by omega)
  by_cases h : (jourL 0 xs).length ≤ 16000
  · have h2 : 0 + least xs ≤ 16000 := by omega
    simp only [h, h2, decide_true, Bool.and_true]
  · simp [h]
end Go.Proofs.YtlfgkibfhhifmaaDoor

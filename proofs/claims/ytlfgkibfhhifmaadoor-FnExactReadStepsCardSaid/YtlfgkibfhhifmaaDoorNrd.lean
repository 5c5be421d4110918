/- Reading numbers: what both sides answer. The plain laws. -/
import Derived.Test.YtlfgkibfhhifmaaDoorPNrdx4
namespace Go.Proofs.YtlfgkibfhhifmaaDoor
open Go.RowKit Go.Proofs.YtlfgkibfhhifmaaDoorW.PrintWords Go.Proofs.YtlfgkibfhhifmaaDoorW.PrintLast Go.Proofs.YtlfgkibfhhifmaaDoorW.PrintMore
theorem baL (l : List UInt8) : (strB l).toList = l := by
  rw [Lib.toList_data]
  unfold strB
  simp
theorem dataL (l : List UInt8) : (strB l).data.toList = l := by unfold strB; simp
theorem splitA_le (c : UInt8) (l : List UInt8) : ∀ cur, ∀ p ∈ splitA c cur l, p.length ≤ cur.length + l.length := by
  induction l with
  | nil => intro cur p hp; simp [splitA] at hp; subst hp; simp
  | cons x l ih =>
    intro cur p hp
    rw [splitA] at hp
    split at hp
    · rcases List.mem_cons.1 hp with rfl | hp
      · simp only [List.length_cons]; omega
      · have := ih [] p hp
        simp only [List.length_cons, List.length_nil] at this ⊢; omega
    · have := ih _ p hp
      simp only [List.length_append, List.length_cons, List.length_nil] at this ⊢; omega
theorem splitA_pos (c : UInt8) (cur l : List UInt8) : 0 < (splitA c cur l).length := by
  rw [splitA_step]; simp
theorem rd_map (xs : List (List UInt8)) (i : Nat) (s : List UInt8) (h : xs[i]? = some s) : rdOf ByteArray.empty (xs.map strB) (i : Int) = strB s := by
  simp [rdOf, List.getD_eq_getElem?_getD, h]
/-- What both sides answer. -/
def nrdO (o : Option (List Nat)) (acc : List Nat) : List Nat × Bool := match o with | some ys => (acc ++ ys, true) | none => ([], false)
def nrdR (l : List UInt8) : List Nat × Bool := nrdO (rdNums l) []
theorem w_up (a : Nat) (h : a < 4000000000000000) : wrap64 ((a : Int) + 1) = ((a + 1 : Nat) : Int) := by unfold wrap64; omega
theorem hex_of (s : List UInt8) (hs : s.length ≤ 281474976710656) : impl_readHex.f (strB s) = some (rdH s) := by
  unfold impl_readHex.f
  rw [strB_size, if_pos hs, dataL]
theorem impl_nrd (qs ps : List (List UInt8)) (acc : List Nat) (hl : ps.length + qs.length ≤ 256) (hs : ∀ q ∈ qs, q.length ≤ 281474976710656) (ha : acc.length ≤ ps.length) :
    ∃ k, PNrd.impl_ReadNumbers.l0 k ((ps ++ qs).map strB) acc ((ps ++ qs).map strB) ((ps.length + qs.length : Nat) : Int) (ps.length : Int) = some (nrdO (rdAll qs) acc) := by
  induction qs generalizing ps acc with
  | nil =>
    refine ⟨1, ?_⟩
    rw [PNrd.impl_ReadNumbers.l0, if_neg (by simp)]
    simp [rdAll, nrdO]
  | cons q qs ih =>
    have hq : (ps ++ q :: qs)[ps.length]? = some q := by simp
    have hml : ((ps ++ q :: qs).map strB).length = ps.length + (qs.length + 1) := by simp
    simp only [List.length_cons] at hl ⊢
    have hh := hex_of q (hs q List.mem_cons_self)
    cases h8 : rd8 q with
    | none =>
      have h2 := rdH_none q h8
      refine ⟨1, ?_⟩
      rw [PNrd.impl_ReadNumbers.l0, if_pos (by omega), if_pos (by omega), if_pos (by rw [hml]; omega), rd_map _ _ _ hq, hh, Option.bind_some, if_neg (by rw [h2]; simp)]
      simp [rdAll, h8, nrdO]
    | some n =>
      have h2 := rdH_some q n h8
      obtain ⟨k, hk⟩ := ih (ps ++ [q]) (acc ++ [n]) (by simp only [List.length_append, List.length_singleton]; omega) (fun x hx => hs x (List.mem_cons_of_mem _ hx)) (by simp only [List.length_append, List.length_singleton]; omega)
      refine ⟨k + 1, ?_⟩
      have e1 : ps ++ [q] ++ qs = ps ++ q :: qs := by simp
      have e2 : (ps ++ [q]).length = ps.length + 1 := by simp
      rw [e1, e2] at hk
      rw [PNrd.impl_ReadNumbers.l0, if_pos (by omega), if_pos (by omega), if_pos (by rw [hml]; omega), rd_map _ _ _ hq, hh, Option.bind_some, h2, if_pos rfl, if_neg (by rw [hml]; omega), if_pos (by omega), w_up _ (by omega)]
      rw [show ps.length + (qs.length + 1) = ps.length + 1 + qs.length by omega]
      rw [hk]
      simp only [rdAll, h8, Option.bind_some]
      cases rdAll qs with
      | none => rfl
      | some ys => simp [nrdO]
theorem impl_ReadNumbers_all (l : List UInt8) (hl : l.length ≤ 1048576) : ∃ k, PNrd.impl_ReadNumbers.f k (strB l) = some (nrdR l) := by
  unfold PNrd.impl_ReadNumbers.f PNrd.impl_partsOrNone.f nrdR rdNums
  rw [baL]
  by_cases hn : l = [110, 111, 110, 101]
  · rw [if_pos hn, if_pos hn]
    refine ⟨1, ?_⟩
    rw [Option.bind_some, PNrd.impl_ReadNumbers.l0, if_neg (by simp)]
    rfl
  · rw [if_neg hn, if_neg hn]
    have hsp : strings_Split.f (strB l) (⟨#[44]⟩ : ByteArray) = some ((splitA 44 [] l).map strB) := by
      unfold strings_Split.f
      rw [strB_size, if_pos ⟨rfl, by omega⟩, dataL]
      rfl
    rw [hsp]
    simp only [Option.bind_some, List.length_map]
    have hle := splitA_le 44 l []
    have hpos := splitA_pos 44 [] l
    generalize splitA 44 [] l = xs at hle hpos ⊢
    by_cases hbig : 256 < xs.length
    · rw [if_pos hbig]
      cases xs with
      | nil => simp at hpos
      | cons q qs =>
        refine ⟨1, ?_⟩
        have hq : (q :: qs)[0]? = some q := rfl
        have hh := hex_of q (by have := hle q List.mem_cons_self; simp only [List.length_nil] at this; omega)
        have hr := rd_map _ _ _ hq
        rw [PNrd.impl_ReadNumbers.l0, if_pos (by omega), if_pos (by omega), if_pos (by simp only [List.length_map]; omega)]
        rw [show rdOf ByteArray.empty ((q :: qs).map strB) (0 : Int) = strB q from hr, hh, Option.bind_some]
        cases (rdH q).2 with
        | false => rfl
        | true => rw [if_pos rfl, if_pos (by simp only [List.length_map]; omega)]; rfl
    · rw [if_neg hbig]
      obtain ⟨k, hk⟩ := impl_nrd xs [] [] (by simp only [List.length_nil]; omega) (fun q hq => by have := hle q hq; simp only [List.length_nil] at this; omega) (Nat.le_refl _)
      refine ⟨k, ?_⟩
      simpa using hk
theorem spec_bits (b : Nat) (hb : b < 4294967296) : PNrd.spec_l01Bits.f b = some ((canon b : Nat) : Int) := by
  unfold PNrd.spec_l01Bits.f
  have hw : wrap64 (b : Int) = b := by unfold wrap64; omega
  have e : canon b = if ((FloatKind.f32).format.order b b == some .eq) = true then b else 2143289344 := rfl
  rw [hw, e]
  cases hx : ((FloatKind.f32).format.order b b == some .eq) <;> simp [bne, hx]
theorem w_hex (n d : Nat) (hn : n < 268435456) (hd : d < 16) : wrap64 (wrap64 (16 * (n : Int)) + (d : Int)) = ((16 * n + d : Nat) : Int) := by
  have : wrap64 (16 * (n : Int)) = ((16 * n : Nat) : Int) := by unfold wrap64; omega
  rw [this]
  unfold wrap64
  omega
theorem len_one {α : Type} (a : List α) (x : α) : ((a ++ [x]).length : Int) = ((a.length + 1 : Nat) : Int) := by simp
theorem spec_inner (acc : List Nat) (parts : List ByteArray) (i : Nat) (s : List UInt8) (hxi : parts[i]? = some (strB s)) (h8 : s.length = 8) (R : List Nat × Bool) (post pre : List UInt8) (n : Nat) (hs : s = pre ++ post) (hn : n < 16 ^ pre.length)
    (hR : match hexAll n post with | some m => ∃ k, PNrd.spec_l01NRead.l1 k acc parts (i : Int) (m : Int) 8 = some R | none => R = ([], false)) :
    ∃ k, PNrd.spec_l01NRead.l1 k acc parts (i : Int) (n : Int) (pre.length : Int) = some R := by
  have hlt : i < parts.length := (List.getElem?_eq_some_iff.1 hxi).1
  have hrd : rdOf ByteArray.empty parts (i : Int) = strB s := by simp [rdOf, List.getD_eq_getElem?_getD, hxi]
  induction post generalizing pre n with
  | nil =>
    rw [List.append_nil] at hs
    rw [hexAll] at hR
    rw [← hs, h8]
    exact hR
  | cons c post ih =>
    have hlen : s.length = pre.length + (post.length + 1) := by rw [hs]; simp
    have hp7 : 16 ^ pre.length ≤ 16 ^ 7 := Nat.pow_le_pow_right (by omega) (by omega)
    have hn7 : n < 268435456 := by
      have e : (16 : Nat) ^ 7 = 268435456 := by decide
      omega
    have hpw : 16 ^ (pre ++ [c]).length = 16 * 16 ^ pre.length := by
      rw [List.length_append, List.length_singleton, Nat.pow_succ, Nat.mul_comm]
    have hb := bt_here pre post c
    rw [← hs] at hb
    have hc : c.toNat < 256 := c.toNat_lt
    have E1 := Lib.hid ((w_up pre.length (by omega)).trans (len_one pre c).symm)
    have hs2 : s = (pre ++ [c]) ++ post := by rw [hs]; simp
    rw [hexAll] at hR
    unfold hexVal at hR
    by_cases hd : 48 ≤ c.toNat ∧ c.toNat ≤ 57
    · rw [if_pos hd, Option.bind_some] at hR
      obtain ⟨k, hk⟩ := ih (pre ++ [c]) (16 * n + (c.toNat - 48)) hs2 (by rw [hpw]; omega) hR
      refine ⟨k + 4, ?_⟩
      have e3 : ((c.toNat : Int) - 48) % 256 = ((c.toNat - 48 : Nat) : Int) := by omega
      have E4 := Lib.hid (w_hex n (c.toNat - 48) hn7 (by omega))
      rw [PNrd.spec_l01NRead.l1, if_pos (by omega), if_pos (by omega), if_pos (by omega), if_pos (by omega), hrd, strB_size, if_pos (by omega), hb, if_pos (by omega), decide_eq_true (by omega)]
      rw [PNrd.spec_l01NRead.j2, if_pos rfl, e3, PNrd.spec_l01NRead.j3, if_neg (by omega), PNrd.spec_l01NRead.j4, if_neg (by simp), if_neg (by omega), E4.out, E1.out]
      exact hk
    · rw [if_neg hd] at hR
      by_cases hle : 97 ≤ c.toNat ∧ c.toNat ≤ 102
      · rw [if_pos hle, Option.bind_some] at hR
        obtain ⟨k, hk⟩ := ih (pre ++ [c]) (16 * n + (c.toNat - 87)) hs2 (by rw [hpw]; omega) hR
        refine ⟨k + 4, ?_⟩
        have e3 : ((c.toNat : Int) - 97) % 256 + 10 = ((c.toNat - 87 : Nat) : Int) := by omega
        have E4 := Lib.hid (w_hex n (c.toNat - 87) hn7 (by omega))
        rw [PNrd.spec_l01NRead.l1, if_pos (by omega), if_pos (by omega), if_pos (by omega), if_pos (by omega), hrd, strB_size, if_pos (by omega), hb, if_pos (by omega), decide_eq_false (by omega)]
        rw [PNrd.spec_l01NRead.j2, if_neg (by simp), PNrd.spec_l01NRead.j3, if_pos (by omega), decide_eq_true (by omega), PNrd.spec_l01NRead.j4, if_pos rfl, e3, if_neg (by omega), E4.out, E1.out]
        exact hk
      · rw [if_neg hle, Option.bind_none] at hR
        refine ⟨4, ?_⟩
        subst hR
        have hj3 : PNrd.spec_l01NRead.j3 2 acc parts (i : Int) (n : Int) (pre.length : Int) (c.toNat : Int) (-1) = some ([], false) := by
          rw [PNrd.spec_l01NRead.j3]
          by_cases h97 : (c.toNat : Int) ≥ 97
          · rw [if_pos h97, decide_eq_false (by omega), PNrd.spec_l01NRead.j4, if_neg (by simp), if_pos (by omega)]
          · rw [if_neg h97, PNrd.spec_l01NRead.j4, if_neg (by simp), if_pos (by omega)]
        rw [PNrd.spec_l01NRead.l1, if_pos (by omega), if_pos (by omega), if_pos (by omega), if_pos (by omega), hrd, strB_size, if_pos (by omega), hb]
        by_cases h48 : (c.toNat : Int) ≥ 48
        · rw [if_pos h48, decide_eq_false (by omega), PNrd.spec_l01NRead.j2, if_neg (by simp)]
          exact hj3
        · rw [if_neg h48, PNrd.spec_l01NRead.j2, if_neg (by simp)]
          exact hj3
theorem spec_nrd (qs ps : List (List UInt8)) (acc : List Nat) (hl : ps.length + qs.length ≤ 256) (ha : acc.length ≤ ps.length) :
    ∃ k, PNrd.spec_l01NRead.l0 k acc ((ps ++ qs).map strB) (ps.length : Int) = some (nrdO (rdAll qs) acc) := by
  induction qs generalizing ps acc with
  | nil =>
    refine ⟨1, ?_⟩
    rw [PNrd.spec_l01NRead.l0, if_neg (by simp)]
    simp [rdAll, nrdO]
  | cons q qs ih =>
    have hq : (ps ++ q :: qs)[ps.length]? = some q := by simp
    have hml : ((ps ++ q :: qs).map strB).length = ps.length + (qs.length + 1) := by simp
    have hxi : ((ps ++ q :: qs).map strB)[ps.length]? = some (strB q) := by simp
    simp only [List.length_cons] at hl ⊢
    by_cases h8 : q.length = 8
    · have hin : ∃ k, PNrd.spec_l01NRead.l1 k acc ((ps ++ q :: qs).map strB) (ps.length : Int) ((0 : Nat) : Int) (([] : List UInt8).length : Int) = some (nrdO (rdAll (q :: qs)) acc) := by
        refine spec_inner acc _ ps.length q hxi h8 _ q [] 0 rfl (by simp) ?_
        cases hx : hexAll 0 q with
        | none =>
          have hn : rd8 q = none := by unfold rd8; rw [if_pos h8, hx]; rfl
          simp only [rdAll, hn, Option.bind_none]
          rfl
        | some m =>
          have hd := digits_of q.reverse 7 m (by simpa using h8) (by rw [List.reverse_reverse]; exact hx)
          have hm : m < 4294967296 := by have := hd.2; omega
          have hfrom : PNrd.spec_l01From.f (m : Int) = some m := by
            unfold PNrd.spec_l01From.f
            congr 1
            omega
          by_cases hcan : canon m = m
          · have hn : rd8 q = some m := by unfold rd8; rw [if_pos h8, hx, Option.bind_some, if_pos hcan]
            obtain ⟨k, hk⟩ := ih (ps ++ [q]) (acc ++ [m]) (by simp only [List.length_append, List.length_singleton]; omega) (by simp only [List.length_append, List.length_singleton]; omega)
            refine ⟨k + 1, ?_⟩
            have e1 : ps ++ [q] ++ qs = ps ++ q :: qs := by simp
            have e2 : (ps ++ [q]).length = ps.length + 1 := by simp
            rw [e1, e2] at hk
            rw [PNrd.spec_l01NRead.l1, if_neg (by omega), hfrom, Option.bind_some, spec_bits m hm, Option.bind_some, hcan, if_pos rfl, if_pos (by omega), w_up _ (by omega), hk]
            simp only [rdAll, hn, Option.bind_some]
            cases rdAll qs with
            | none => rfl
            | some ys => simp [nrdO]
          · have hn : rd8 q = none := by unfold rd8; rw [if_pos h8, hx, Option.bind_some, if_neg hcan]
            refine ⟨1, ?_⟩
            rw [PNrd.spec_l01NRead.l1, if_neg (by omega), hfrom, Option.bind_some, spec_bits m hm, Option.bind_some, if_neg (by omega)]
            simp only [rdAll, hn, Option.bind_none]
            rfl
      obtain ⟨k, hk⟩ := hin
      refine ⟨k + 1, ?_⟩
      rw [PNrd.spec_l01NRead.l0, if_pos (by rw [hml]; omega), if_pos (by omega), rd_map _ _ _ hq, strB_size, if_pos (by omega)]
      exact hk
    · have hn : rd8 q = none := by unfold rd8; rw [if_neg h8]
      refine ⟨1, ?_⟩
      rw [PNrd.spec_l01NRead.l0, if_pos (by rw [hml]; omega), if_pos (by omega), rd_map _ _ _ hq, strB_size, if_neg (by omega)]
      simp only [rdAll, hn, Option.bind_none]
      rfl
theorem spec_NRead_all (l : List UInt8) (hl : l.length ≤ 1048576) : ∃ k, PNrd.spec_l01NRead.f k (strB l) = some (nrdR l) := by
  unfold PNrd.spec_l01NRead.f nrdR rdNums
  rw [baL]
  simp only [Option.bind_some]
  by_cases hn : l = [110, 111, 110, 101]
  · refine ⟨0, ?_⟩
    rw [if_pos hn, if_pos hn]
    rfl
  · simp only [if_neg hn]
    have hsp : spec_l01Cut.f (strB l) 44 = some ((splitA 44 [] l).map strB) := by
      unfold spec_l01Cut.f
      rw [strB_size, if_pos ⟨by omega, by omega, by omega⟩, dataL]
      rfl
    rw [hsp]
    simp only [Option.bind_some, List.length_map]
    generalize splitA 44 [] l = xs
    by_cases hbig : 256 < xs.length
    · refine ⟨0, ?_⟩
      rw [if_pos (by omega), if_pos hbig]
      rfl
    · obtain ⟨k, hk⟩ := spec_nrd xs [] [] (by simp only [List.length_nil]; omega) (Nat.le_refl _)
      refine ⟨k, ?_⟩
      rw [if_neg (by omega), if_neg hbig]
      exact hk
end Go.Proofs.YtlfgkibfhhifmaaDoor

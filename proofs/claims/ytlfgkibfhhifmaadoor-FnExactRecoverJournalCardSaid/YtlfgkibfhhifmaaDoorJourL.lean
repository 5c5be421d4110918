/- FnExactJournalOf: the walk. -/
import Derived.Test.YtlfgkibfhhifmaaDoorJourI
namespace Go.Proofs.YtlfgkibfhhifmaaDoor
open Go.RowKit Go.Proofs.YtlfgkibfhhifmaaDoorW.PrintWords Go.Proofs.YtlfgkibfhhifmaaDoorW.PrintLast Go.Proofs.YtlfgkibfhhifmaaDoorW.PrintMore
theorem toS_rounds (xs : List ByteArray) (n k : Nat) (ys : List ByteArray) (hy : ys.length = xs.length) (hn : n ≤ xs.length) (hl : xs.length < 4611686018427387904) :
    PJrn.laws_toStringS.l0 (k + n + 1) xs ys ((xs.length - n : Nat) : Int) = some (ys.take (xs.length - n) ++ xs.drop (xs.length - n)) := by
  induction n generalizing k ys with
  | zero =>
    rw [PJrn.laws_toStringS.l0, if_neg (by omega)]
    simp [← hy]
  | succ n ih =>
    rw [show k + (n + 1) + 1 = (k + n + 1) + 1 by omega]
    rw [PJrn.laws_toStringS.l0, if_pos (by omega), if_pos (by omega), if_pos (by omega)]
    have e1 : wrap64 (((xs.length - (n + 1) : Nat) : Int) + 1) = ((xs.length - n : Nat) : Int) := by unfold wrap64; omega
    have e2 : (((xs.length - (n + 1) : Nat) : Int)).toNat = xs.length - (n + 1) := by omega
    rw [e1, e2]
    rw [ih k (ys.set (xs.length - (n + 1)) (rdOf ByteArray.empty xs ((xs.length - (n + 1) : Nat) : Int))) (by simp [hy]) (by omega)]
    congr 1
    have hj : xs.length - (n + 1) < xs.length := by omega
    have e3 : rdOf ByteArray.empty xs ((xs.length - (n + 1) : Nat) : Int) = xs[xs.length - (n + 1)] := by
      simp [rdOf, List.getD_eq_getElem?_getD, List.getElem?_eq_getElem hj]
    rw [e3]
    rw [List.drop_eq_getElem_cons hj]
    rw [show xs.length - n = (xs.length - (n + 1)) + 1 by omega]
    rw [List.take_succ_eq_append_getElem (by simp [hy]; omega)]
    rw [List.take_set, List.set_eq_of_length_le (by simp; omega)]
    simp
theorem toS_same (xs : List ByteArray) (hl : xs.length ≤ 17592186044416) : PJrn.laws_toStringS.f (xs.length + 1) xs = some xs := by
  unfold PJrn.laws_toStringS.f
  rw [if_pos (by omega), if_pos (by omega)]
  have := toS_rounds xs xs.length 0 (List.replicate xs.length ⟨#[]⟩) (by simp) (Nat.le_refl _) (by omega)
  simpa using this
theorem eqS_rounds (xs : List ByteArray) (n k : Nat) (hn : n ≤ xs.length) (hl : xs.length < 4611686018427387904) :
    PJrn.laws_eqStringS.l0 (k + n + 1) xs xs ((xs.length - n : Nat) : Int) = some true := by
  induction n generalizing k with
  | zero => rw [PJrn.laws_eqStringS.l0, if_neg (by omega)]
  | succ n ih =>
    rw [show k + (n + 1) + 1 = (k + n + 1) + 1 by omega]
    have e1 : wrap64 (((xs.length - (n + 1) : Nat) : Int) + 1) = ((xs.length - n : Nat) : Int) := by unfold wrap64; omega
    rw [PJrn.laws_eqStringS.l0, if_pos (by omega), if_pos (by omega), if_pos (by omega), if_pos rfl, e1, ih k (by omega)]
theorem eqS_same (xs : List ByteArray) (hl : xs.length < 4611686018427387904) : PJrn.laws_eqStringS.f (xs.length + 1) xs xs = some true := by
  unfold PJrn.laws_eqStringS.f
  rw [if_pos rfl]
  have := eqS_rounds xs xs.length 0 (Nat.le_refl _) hl
  simpa using this
theorem szS_rounds (qs ps xs : List ByteArray) (hxs : xs = ps ++ qs) (t : Nat) (ht : t ≤ 1048576) (hl : xs.length < 4611686018427387904) (hs : ∀ x ∈ xs, x.size ≤ 9223372036854775807) :
    ∃ k r, PJrn.laws_szStringS.l0 k xs (t : Int) (ps.length : Int) = some r ∧ (0 ≤ r → ∀ x ∈ qs, x.size ≤ 1048576) := by
  induction qs generalizing ps t with
  | nil =>
    have hlen : xs.length = ps.length := by rw [hxs]; simp
    exact ⟨1, t, by rw [PJrn.laws_szStringS.l0, if_neg (by omega)], fun _ => by simp⟩
  | cons x qs ih =>
    have hxi : xs[ps.length]? = some x := by rw [hxs]; simp
    have hlt : ps.length < xs.length := (List.getElem?_eq_some_iff.1 hxi).1
    have hsz : x.size ≤ 9223372036854775807 := hs x (List.mem_of_getElem? hxi)
    have hrd : rdOf ByteArray.empty xs (ps.length : Int) = x := by simp [rdOf, List.getD_eq_getElem?_getD, hxi]
    have ew : wrap64 ((t : Int) - (x.size : Int)) = (t : Int) - x.size := by unfold wrap64; omega
    by_cases hbig : x.size ≤ t
    · obtain ⟨k, r, hk, hr⟩ := ih (ps ++ [x]) (by rw [hxs]; simp) (t - x.size) (by omega)
      have hlp : (ps ++ [x]).length = ps.length + 1 := by simp
      rw [hlp] at hk
      refine ⟨k + 1, r, ?_, fun h y hy => ?_⟩
      · rw [PJrn.laws_szStringS.l0, if_pos (by omega), if_pos (by omega), hrd, ew, if_neg (by omega)]
        have e2 : wrap64 ((ps.length : Int) + 1) = ((ps.length + 1 : Nat) : Int) := by unfold wrap64; omega
        rw [e2, ← hk]
        congr 1
        omega
      · rcases List.mem_cons.1 hy with rfl | hy
        · omega
        · exact hr h y hy
    · refine ⟨1, -1, ?_, fun h => by omega⟩
      rw [PJrn.laws_szStringS.l0, if_pos (by omega), if_pos (by omega), hrd, ew, if_pos (by omega)]
theorem szS (xs : List ByteArray) (hl : xs.length ≤ 9223372036854775807) (hs : ∀ x ∈ xs, x.size ≤ 9223372036854775807) :
    ∃ k r, PJrn.laws_szStringS.f k xs 1048576 = some r ∧ (0 ≤ r → xs.length ≤ 1048576 ∧ ∀ x ∈ xs, x.size ≤ 1048576) := by
  unfold PJrn.laws_szStringS.f
  have e1 : wrap64 (1048576 - (xs.length : Int)) = 1048576 - xs.length := by unfold wrap64; omega
  rw [e1]
  by_cases h : xs.length ≤ 1048576
  · obtain ⟨k, r, hk, hr⟩ := szS_rounds xs [] xs rfl (1048576 - xs.length) (by omega) (by omega) hs
    refine ⟨k, r, ?_, fun h0 => ⟨h, hr h0⟩⟩
    rw [if_neg (by omega), ← hk]
    congr 1
    omega
  · exact ⟨0, -1, by rw [if_pos (by omega)], fun h0 => by omega⟩
set_option maxHeartbeats 4000000 in
set_option maxRecDepth 100000 in
theorem fnJournalOf_any (A : Option Addr) (c : Nat) (xs : List ByteArray) (w : World) (hG : GW w) (hr : Kd.C Kd.string w A xs.length xs) (hc : xs.length ≤ c) (hs : ∀ x ∈ xs, x.size ≤ 9223372036854775807) :
    Calls Tryd.prog 3 #[.slice A xs.length c] w fun e w' => e = .returned (.bool true) ∧ Below w.heap.size w w' := by
  obtain ⟨k, r, hz, hzr⟩ := szS xs hr.2.1 hs
  have HR := Aside0.mk hr
  have HG := Aside0.mk hG
  have HZ := Aside0.mk (PJrn.laws_szStringS.calls k A c xs 1048576 r w hr hc hz)
  clear hr hG hs hz
  go_enter Tryd.func3, Tryd.ntmps3
  go_wp2_with (fail)
  refine (HZ.out).mono ?_
  rintro e w1 ⟨rfl, hb1⟩
  have hB1 : Below w.heap.size w w1 := hb1.below
  clear HZ hb1
  by_cases hneg : r < 0
  · clear hzr
    go_wp2
    go_ret
    exact ⟨rfl, hB1⟩
  · obtain ⟨hn, hs⟩ := hzr (by omega)
    obtain ⟨kj, hj⟩ := spec_jour xs hn hs
    generalize hp : jourR xs (okJ xs) = p at hj
    obtain ⟨t, b⟩ := p
    have HJ := Lib.hid hj
    have HP := Lib.hid hp
    have HS := Aside0.mk hs
    have HTS := Lib.hid (toS_same xs (by omega))
    have HEQ := Lib.hid (eqS_same xs (by omega))
    have CT := Aside0.mk (show ∀ W, Below w.heap.size w W → Calls Tryd.prog 12 #[.slice A xs.length c] W fun e w' => ∃ A2 c2, e = .returned (.slice A2 xs.length c2) ∧ xs.length ≤ c2 ∧ Aside0 (Kd.C Kd.string w' A2 xs.length xs) ∧ Below W.heap.size W w' from fun W hW => by
      refine (PJrn.laws_toStringS.calls _ A c xs xs W (Kd.C_below HR.out hW) hc HTS.out).mono ?_
      rintro e w6 ⟨v0, rfl, hr0, hb6⟩
      obtain ⟨A6, c6, rfl, hc6, hC6⟩ := Kd.R_reads hr0
      exact ⟨A6, c6, rfl, hc6, ⟨hC6⟩, hb6⟩)
    clear hj hp hs hzr HTS HR
    go_wp2_with (fail)
    (with_reducible refine (CT.out _ hB1).mono ?_)
    rintro e w2 ⟨A2, c2, rfl, hc2, hC2, hb2⟩
    have hB2 := below_then hB1 hB1.size hb2
    clear hb2
    go_wp2_with (fail)
    refine (PJrn.spec_JournalOf.calls kj A2 c2 xs t b w2 hC2.out hc2 HJ.out).mono ?_
    rintro e w3 ⟨rfl, hb3⟩
    have hB3 := below_then hB2 hB2.size hb3
    clear hb3 hC2 hc2 HJ
    go_wp2_with (fail)
    (with_reducible refine (CT.out _ hB3).mono ?_)
    rintro e w4 ⟨A4, c4, rfl, hc4, hC4, hb4⟩
    have hB4 := below_then hB3 hB3.size hb4
    clear hb4
    go_wp2_with (fail)
    refine (implJournal_any A4 c4 xs w4 (HG.out.below hB4) hC4.out hn HS.out t b HP.out).mono ?_
    rintro e w5 ⟨rfl, hb5⟩
    have hB5 := below_then hB4 hB4.size hb5
    have hC5 := Aside0.mk (Kd.C_below hC4.out hb5)
    clear hb5 hC4 HP HS HG hB4 hB3 hB2 hB1
    go_wp2_with (fail)
    (with_reducible refine (CT.out _ hB5).mono ?_)
    rintro e w6 ⟨A6, c6, rfl, hc6, hC6, hb6⟩
    have hB6 := below_then hB5 hB5.size hb6
    have hC6' := Aside0.mk (Kd.C_below hC5.out hb6)
    clear hb6
    go_wp2_with (fail)
    refine (PJrn.laws_eqStringS.calls _ A4 c4 xs A6 c6 xs true w6 hC6'.out hc4 hC6.out hc6 HEQ.out).mono ?_
    rintro e w7 ⟨rfl, hb7⟩
    clear HEQ CT hC6 hC6'
    go_wp2
    go_ret
    exact ⟨rfl, below_then hB6 hB6.size hb7.below⟩
end Go.Proofs.YtlfgkibfhhifmaaDoor

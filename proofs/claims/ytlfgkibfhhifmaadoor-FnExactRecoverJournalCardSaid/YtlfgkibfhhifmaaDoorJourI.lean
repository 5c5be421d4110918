/- impl.JournalOf: the walk. -/
import Derived.Test.YtlfgkibfhhifmaaDoorJourP
import Derived.Test.YtlfgkibfhhifmaaDoorBuild
namespace Go.Proofs.YtlfgkibfhhifmaaDoor
open Go.RowKit Go.Proofs.YtlfgkibfhhifmaaDoorW.PrintWords Go.Proofs.YtlfgkibfhhifmaaDoorW.PrintLast Go.Proofs.YtlfgkibfhhifmaaDoorW.PrintMore
theorem BuilderAt_below {T e : TypeId} {B b : Nat} {p : Value} {bs : List Value} {w w' : World} (h : Lib.BuilderAt T e B b p bs w) (hw : Below w.heap.size w w') : Lib.BuilderAt T e B b p bs w' := by
  obtain ⟨hB, v, hb, hown, hne⟩ := h
  exact ⟨hB, v, blk_below hb hw, own_move hown (fun k hk => hw.block k (own_lt hown k hk)), hne⟩
theorem IsBuilder_below {T e : TypeId} {B b : Nat} {bs : List Value} {w w' : World} (h : Lib.IsBuilder T e B b bs w) (hw : Below w.heap.size w w') : Lib.IsBuilder T e B b bs w' :=
  h.elim (fun h => .inl (BuilderAt_below h hw)) (fun h => .inr (BuilderAt_below h hw))
set_option maxHeartbeats 4000000 in
set_option maxRecDepth 100000 in
theorem implJournal_any (A : Option Addr) (c : Nat) (xs : List ByteArray) (w : World) (hG : GW w) (hr : Kd.C Kd.string w A xs.length xs) (hn : xs.length ≤ 1048576) (hs : ∀ x ∈ xs, x.size ≤ 1048576) (t : ByteArray) (b : Bool) (ht : jourR xs (okJ xs) = (t, b)) :
    Calls Tryd.prog 13 #[.slice A xs.length c] w fun e w' => e = .returned (.tuple #[.string t, .bool b]) ∧ Below w.heap.size w w' := by
  have HR := Aside0.mk hr
  have HS := Aside0.mk hs
  have HG := Aside0.mk hG
  have HT := Lib.hid ht
  clear hr hs hG ht
  go_enter Tryd.func13, Tryd.ntmps13
  go_wp2
  go_loopw [5, 11] (fun v5 v11 wr => ∃ k : Nat, v5 = .int .i64 ((chks 0 (xs.take k) : Nat) : Int) ∧ v11 = .int .i64 k ∧ k ≤ xs.length ∧ Hid (noNl (xs.take k) = true) ∧ Hid ((jourL 0 (xs.take k)).length ≤ 16000) ∧ Hid (Lib.IsBuilder 75 5 w.heap.size w.heap.size (Lib.byteCells (jourL 0 (xs.take k))) wr) ∧ Below w.heap.size w wr) (fun _ v11 _ => xs.length - (intOf v11).toNat)
  case atStart => exact ⟨0, rfl, rfl, Nat.zero_le _, Lib.hid rfl, Lib.hid (by simp [jourL]), Lib.hid (Lib.fresh_isBuilder _ _ w), below_alloc (Below.refl _ _) _⟩
  case round =>
    obtain ⟨k, rfl, rfl, hk, hnl, hlen, hbd, hB⟩ := hrel
    by_cases hlt : k < xs.length
    · obtain ⟨ad, e, hx⟩ := Kd.at_string HR.out k (by omega) (by omega)
      cases e
      have hxw : wr.cell? (ad.add k) = some (.string xs[k]) := by
        have h1 := pw_cell_below hB hx
        rw [show (k : Int).toNat = k by omega] at h1
        rw [h1]
        simp [rdOf, List.getD_eq_getElem?_getD, List.getElem?_eq_getElem hlt]
      have hsz := HS.out xs[k] (List.getElem_mem hlt)
      have hc0 : chks 0 (xs.take k) < 65003 := chks_lt _ _ (by omega)
      have ht1 : xs.take (k + 1) = xs.take k ++ [xs[k]] := List.take_succ_eq_append_getElem hlt
      have E1 := Lib.hid (show jourL 0 (xs.take (k + 1)) = _ from ht1 ▸ jourL_snoc 0 (xs.take k) xs[k])
      have E2 := Lib.hid (show chks 0 (xs.take (k + 1)) = _ from ht1 ▸ chks_snoc 0 (xs.take k) xs[k])
      have E3 := Lib.hid (show noNl (xs.take (k + 1)) = _ from ht1 ▸ noNl_snoc (xs.take k) xs[k])
      have HM := Lib.hid (jourL_mono xs (k + 1))
      have HN := Aside0.mk (show hasNl xs[k] = true → noNl xs = false from fun h => by
        simp only [noNl, Bool.not_eq_false']
        exact List.any_eq_true.2 ⟨xs[k], List.getElem_mem hlt, h⟩)
      generalize jourL 0 (xs.take k) = out at hlen hbd E1
      generalize chks 0 (xs.take k) = n at hc0 E1 E2 ⊢
      generalize xs[k] = x at hxw hsz E1 E2 E3 HN
      clear hx ht1
      have HGr := Aside0.mk (HG.out.below hB)
      have CC := Aside0.mk (show ∀ W, Calls Tryd.prog 44 #[.string x, .string ⟨#[10]⟩] W fun e w' => e = .returned (.bool (hasNl x)) ∧ Below W.heap.size W w' from fun W =>
        strings_Contains.calls x ⟨#[10]⟩ (hasNl x) W rfl)
      cases hh : hasNl x with
      | true =>
        rw [hh] at CC
        have hok : okJ xs = false := by unfold okJ; rw [HN.out hh]; rfl
        have HT2 : jourR xs false = (t, b) := hok ▸ HT.out
        have e1 : t = ⟨#[]⟩ := (congrArg Prod.fst HT2).symm
        have e2 : b = false := (congrArg Prod.snd HT2).symm
        subst e1; subst e2
        clear HT HT2 HN hok hh HS HR E1 E2 E3 HM hbd
        go_wp2_with (fail)
        (with_reducible refine (CC.out _).mono ?_)
        rintro e w' ⟨rfl, hb1⟩
        go_wp2
        go_ret2
        exact ⟨rfl, below_then hB hB.size hb1⟩
      | false =>
        rw [hh] at CC E3
        clear HN
        have hcl : chk n x.data.toList < 65003 := chk_lt _ _ hc0
        have hxl : x.data.toList.length = x.size := Array.length_toList
        have CK := Aside0.mk (show ∀ W, Calls Tryd.prog 45 #[.int .i64 (n : Int), .string x] W fun e w' => e = .returned (.tuple #[.int .i64 ((chk n x.data.toList : Nat) : Int), .bool true]) ∧ Below W.heap.size W w' from fun W =>
          (PDec.impl_CheckOf.calls _ _ x _ _ W (by have := impl_chk x.data.toList n 0 hc0 (by omega); rw [strB_self] at this; exact this)).mono fun e w' h => ⟨h.1, h.2.below⟩)
        generalize hd : chk n x.data.toList = q at hcl E1 E2 CK
        have hdl := itoa_len q hcl
        have hj := jcat (Lib.itoa (q : Int)) x
        have CD := Aside0.mk (show ∀ W, GW W → Calls Tryd.prog 47 #[.int .i64 (q : Int)] W fun e w' => e = .returned (.string (strB (Lib.itoa (q : Int)))) ∧ Below W.heap.size W w' from fun W hW =>
          PDec.impl_Decimal.calls _ _ W hW (impl_dec q hcl))
        have hdsz : (strB (Lib.itoa (q : Int))).size ≤ 5 := by rw [strB_size]; exact hdl.2
        have HJ := Lib.hid (show ((strB (Lib.itoa (q : Int)) ++ (⟨#[32]⟩ : ByteArray)) ++ x) ++ (⟨#[10]⟩ : ByteArray) = strB (jline q x.data.toList) from hj)
        have hjl := (jline_len q x.data.toList hcl).2
        rw [hxl] at hjl
        generalize jline q x.data.toList = jl at HJ E1 hjl
        clear hj hdl hd hcl hc0 hh hxl
        generalize strB (Lib.itoa (q : Int)) = d at HJ CD hdsz
        have z1 : d.size + 1 ≤ 9223372036854775807 := by omega
        have z2 : d.size + 1 + x.size ≤ 9223372036854775807 := by omega
        have z3 : d.size + 1 + x.size + 1 ≤ 9223372036854775807 := by omega
        go_wp2_with (fail)
        (with_reducible refine (CC.out _).mono ?_)
        rintro e w1 ⟨rfl, hb1⟩
        have hB1 := below_then hB hB.size hb1
        have hbd1 := Lib.hid (IsBuilder_below hbd.out hb1)
        have hx1 := pw_cell_below hb1 hxw
        have HG1 := Aside0.mk (HGr.out.below hb1)
        clear hb1 hxw hbd HGr hB CC
        go_wp2_with (fail)
        (with_reducible refine (CK.out _).mono ?_)
        rintro e w2 ⟨rfl, hb2⟩
        have hB2 := below_then hB1 hB1.size hb2
        have hbd2 := Lib.hid (IsBuilder_below hbd1.out hb2)
        have HG2 := Aside0.mk (HG1.out.below hb2)
        clear hb2 hx1 hbd1 HG1 hB1 CK
        go_wp2_with (fail)
        (with_reducible refine (CD.out _ HG2.out).mono ?_)
        rintro e w3 ⟨rfl, hb3⟩
        have hB3 := below_then hB2 hB2.size hb3
        have hbd3 := Lib.hid (IsBuilder_below hbd2.out hb3)
        have HG3 := Aside0.mk (HG2.out.below hb3)
        clear hb3 hbd2 HG2 hB2 CD
        go_wp2_with (fail)
        rw [HJ.out]
        have hout := hlen.out
        refine (WriteString w.heap.size w.heap.size (Lib.byteCells out) (strB jl) w3 hbd3.out (by rw [Lib.byteCells_length, strB_size]; omega) hB3.size).mono ?_
        rintro e w4 ⟨rfl, hA4, hb4⟩
        have hB4 : Below w.heap.size w w4 := hB3.trans hb4
        have hbd4 : Hid (Lib.IsBuilder 75 5 w.heap.size w.heap.size (Lib.byteCells (jourL 0 (xs.take (k + 1)))) w4) := Lib.hid (by
          have e : Lib.byteCells out ++ Lib.strCells (strB jl) = Lib.byteCells (jourL 0 (xs.take (k + 1))) := by
            rw [E1.out, Lib.byteCells_append]; rfl
          rw [← e]
          exact .inr hA4)
        have CL := Aside0.mk (show Calls Tryd.prog 48 #[.pointer (some ⟨w.heap.size, 0, none⟩)] w4 fun e w' => e = .returned (.int .i64 ((jourL 0 (xs.take (k + 1))).length : Nat)) ∧ w' = w4 from by
          have := Tryd.Builder_Len w.heap.size w.heap.size _ w4 hbd4.out
          rw [Lib.byteCells_length] at this
          exact this)
        clear hA4 hb4 hbd3 HG3 hB3 E1 HJ hlen hout z1 z2 z3 hdsz hjl
        generalize hJ : (jourL 0 (xs.take (k + 1))).length = m at CL
        have HJm := Lib.hid hJ
        clear hJ
        go_wp2_with (fail)
        (with_reducible refine (CL.out).mono ?_)
        rintro e w5 ⟨rfl, rfl⟩
        by_cases hbig : m ≤ 16000
        · have hb1 : ¬ ((16000 : Int) < (m : Int)) := by omega
          go_wp2
          go_roundw
          case rel => exact ⟨k + 1, by rw [E2.out], by go_num, by omega, Lib.hid (by rw [E3.out, hnl.out]; rfl), Lib.hid (by rw [HJm.out]; exact hbig), hbd4, hB4⟩
          case measure => simp [intOf]; omega
        · have hb1 : (16000 : Int) < (m : Int) := by omega
          have hok : okJ xs = false := by
            unfold okJ
            have h1 := HM.out
            rw [HJm.out] at h1
            rw [decide_eq_false (by omega), Bool.and_false]
          have HT2 : jourR xs false = (t, b) := hok ▸ HT.out
          have e1 : t = ⟨#[]⟩ := (congrArg Prod.fst HT2).symm
          have e2 : b = false := (congrArg Prod.snd HT2).symm
          subst e1; subst e2
          clear HT HT2 hok HS HR E2 E3 HM hbd4 CL
          go_wp2
          go_ret2
          exact ⟨rfl, hB4⟩
    · obtain rfl : k = xs.length := by omega
      have e0 : xs.take xs.length = xs := List.take_length
      rw [e0] at hnl hlen hbd
      have hok : okJ xs = true := by
        unfold okJ
        rw [hnl.out, decide_eq_true hlen.out]
        rfl
      have HT2 : jourR xs true = (t, b) := hok ▸ HT.out
      have e1 : t = strB (jourL 0 xs) := (congrArg Prod.fst HT2).symm
      have e2 : b = true := (congrArg Prod.snd HT2).symm
      have CS := Aside0.mk (show Calls Tryd.prog 49 #[.pointer (some ⟨w.heap.size, 0, none⟩)] wr fun e w' => e = .returned (.string t) ∧ Below w.heap.size wr w' from by
        rw [e1]
        exact Tryd.Builder_String_any w.heap.size w.heap.size (jourL 0 xs) wr hbd.out hB.size)
      subst e2
      clear HT HT2 hok HS HR hbd hnl hlen e1
      go_wp2_with (fail)
      (with_reducible refine (CS.out).mono ?_)
      rintro e w5 ⟨rfl, hb5⟩
      go_wp2
      go_ret2
      exact ⟨rfl, hB.trans hb5⟩
end Go.Proofs.YtlfgkibfhhifmaaDoor

/- strconv.ParseUint at base 16 and size 32, and impl.readHex. -/
import Derived.Test.YtlfgkibfhhifmaaDoorHexOf
namespace Go.Proofs.YtlfgkibfhhifmaaDoor
open Go.RowKit Go.Proofs.YtlfgkibfhhifmaaDoorW.PrintWords Go.Proofs.YtlfgkibfhhifmaaDoorW.PrintLast Go.Proofs.YtlfgkibfhhifmaaDoorW.PrintMore
/-- A byte with the bit of the small letters. -/
def lowN (c : UInt8) : Nat := (Go.bits BinOp.or IntKind.u8 (c.toNat : Int) 32).toNat
def parse16 (acc : Nat) : List UInt8 → Option (Option Nat)
  | [] => some (some acc)
  | c :: r =>
    if 48 ≤ c.toNat ∧ c.toNat ≤ 57 then
      if 4294967295 < acc * 16 + (c.toNat - 48) then some none else parse16 (acc * 16 + (c.toNat - 48)) r
    else if 97 ≤ lowN c ∧ lowN c ≤ 102 then
      if 4294967295 < acc * 16 + (lowN c - 87) then some none else parse16 (acc * 16 + (lowN c - 87)) r
    else none
/-- What the inner ParseUint hands back: a number; none (no number); some none (too great a number). -/
def peT (T : TypeId) : Option (Option Nat) → Value
  | some (some n) => .tuple #[.int .u64 n, .nilIface]
  | none => .tuple #[.int .u64 0, .iface T (.int .i64 2)]
  | some none => .tuple #[.int .u64 4294967295, .iface T (.int .i64 1)]
/-- What the call may take for granted of the library's variables. -/
structure GX (w : World) : Prop where
  gw : GW w
  es : ∃ ev, w.cell? ⟨5, 0, none⟩ = some ev ∧ (ev = .nilIface ∨ ∃ te pe, ev = .iface te pe)
  er : ∃ ev, w.cell? ⟨6, 0, none⟩ = some ev ∧ (ev = .nilIface ∨ ∃ te pe, ev = .iface te pe)
theorem GX.below {w w' : World} (h : GX w) (hb : Below w.heap.size w w') : GX w' := by
  obtain ⟨e1, h1, k1⟩ := h.es
  obtain ⟨e2, h2, k2⟩ := h.er
  exact ⟨h.gw.below hb, ⟨e1, (hb.cell (World.block_lt_of_cell? w _ h1)).trans h1, k1⟩, ⟨e2, (hb.cell (World.block_lt_of_cell? w _ h2)).trans h2, k2⟩⟩
theorem GX.drewN {w : World} (h : GX w) (n : Nat) : GX (w.drewN n) := h.below (below_drewN0 w n)
set_option maxHeartbeats 32000000 in
set_option maxRecDepth 100000 in
theorem internal_ParseUint_16 (t : ByteArray) (hne : t.size ≠ 0) (hmax : t.size ≤ 9223372036854775806) (w : World) :
    Calls Tryd.prog 176 #[.string t, .int .i64 16, .int .i64 32] w fun e w' => e = .returned (peT 217 (parse16 0 t.data.toList)) ∧ w' = Lib.bytesWorld w 5 t := by
  have hemp : t.toList.isEmpty = false := by
    rw [← decide_eq_emptyBytes]
    exact decide_eq_false (fun h => hne (by rw [h]; rfl))
  have hcv := Lib.run_convert_string_bytes (P := Tryd.prog) w 9 48 5 t (u := .string) Tryd.underlying9 Tryd.underlying48 Tryd.underlying5
  have hB : ∀ j, j < t.size → (Lib.bytesWorld w 5 t).cell? ⟨w.heap.size, j, none⟩ = some (.int .u8 (t.data.toList.getD j 0).toNat) := fun j hj => Lib.bytesWorld_cell w 5 t j hj
  obtain ⟨W1, hW1⟩ : ∃ W1, W1 = Lib.bytesWorld w 5 t := ⟨_, rfl⟩
  rw [← hW1] at hcv hB ⊢
  clear hW1
  obtain ⟨bs, hL⟩ : ∃ bs, bs = t.data.toList := ⟨_, rfl⟩
  have hLn : bs.length = t.size := by rw [hL, Lib.size_eq]
  rw [← hL] at hB ⊢
  clear hL
  have hmv : IntKind.u64.wrap (IntKind.u64.wrap 4294967296 - 1) = 4294967295 := by
    rw [IntKind.wrap_u64, IntKind.wrap_u64]
    decide
  have CL := Aside0.mk (show ∀ (c : Int) W, Calls Tryd.prog 193 #[.int .u8 c] W fun e w' => e = .returned (.int .u8 (Go.bits BinOp.or IntKind.u8 c 32)) ∧ w' = W from fun c W => Tryd.internal_strconv_lower c W)
  go_enter Tryd.func176, Tryd.ntmps176
  go_wp2
  go_loop [12, 13, 101] (fun vu vn vi => ∃ (k acc : Nat) (a : Int), vu = .bool false ∧ vn = .int .u64 a ∧ vi = .int .i64 k ∧ k ≤ t.size ∧ Hid (a = (acc : Int) ∧ acc ≤ 4294967295 ∧ parse16 0 bs = parse16 acc (bs.drop k)))
    (fun _ _ vi => t.size - (intOf vi).toNat)
  case atStart => exact ⟨0, 0, 0, rfl, rfl, rfl, by omega, rfl, by omega, rfl⟩
  case round =>
    obtain ⟨k, acc, a, rfl, rfl, rfl, hk, hh⟩ := hrel
    obtain ⟨ha, hacc, hdec⟩ := hh.out
    clear hh
    have a0 : 0 ≤ a := by omega
    have a1 : a ≤ 4294967295 := by omega
    by_cases hkn : k < t.size
    · have hc := hB k hkn
      have hdrop : bs.drop k = bs[k]'(by omega) :: bs.drop (k + 1) := List.drop_eq_getElem_cons (by omega)
      have hget : bs.getD k 0 = bs[k]'(by omega) := by simp [List.getD, List.getElem?_eq_getElem (show k < bs.length by omega)]
      rw [hdrop] at hdec
      rw [hget] at hc
      generalize bs[k]'(by omega) = c at hc hdec
      have hc256 : c.toNat < 256 := c.toNat_lt
      clear hB hdrop hget
      by_cases hdig : 48 ≤ c.toNat ∧ c.toNat ≤ 57
      · obtain ⟨hd0, hd1⟩ := hdig
        by_cases hov : 4294967295 < acc * 16 + (c.toNat - 48)
        · have hF : parse16 acc (c :: bs.drop (k + 1)) = some none := by simp [parse16, hd0, hd1, hov]
          rw [hF] at hdec
          have iov : 4294967295 < a * 16 + ((c.toNat : Int) - 48) := by omega
          clear hacc hF hov ha
          go_wp2
          go_ret2
          exact ⟨by first | rfl | (rw [hdec]; rfl), rfl⟩
        · have hF : parse16 acc (c :: bs.drop (k + 1)) = parse16 (acc * 16 + (c.toNat - 48)) (bs.drop (k + 1)) := by simp [parse16, hd0, hd1, hov]
          have HN : Hid (a * 16 + ((c.toNat : Int) - 48) = ((acc * 16 + (c.toNat - 48) : Nat) : Int) ∧ acc * 16 + (c.toNat - 48) ≤ 4294967295 ∧ parse16 0 bs = parse16 (acc * 16 + (c.toNat - 48)) (bs.drop (k + 1))) := Lib.hid ⟨by omega, by omega, hdec.trans hF⟩
          have iov : a * 16 + ((c.toNat : Int) - 48) ≤ 4294967295 := by omega
          clear hacc hF hov hdec ha
          go_wp2
          refine ⟨⟨k + 1, acc * 16 + (c.toNat - 48), a * 16 + ((c.toNat : Int) - 48), rfl, (by first | rfl | (congr 1; omega)), (by first | rfl | (congr 1; omega)), by omega, HN⟩, by simp [intOf]; omega⟩
      · have hv0 := bits_lo_u8 .or (c.toNat : Int) 32
        have hv1 := bits_hi_u8 .or (c.toNat : Int) 32
        have hlow : ((lowN c : Nat) : Int) = Go.bits BinOp.or IntKind.u8 (c.toNat : Int) 32 := by unfold lowN; omega
        have hu0 := bits_lo_u8 .or 95 32
        have hu1 := bits_hi_u8 .or 95 32
        by_cases hlet : 97 ≤ lowN c ∧ lowN c ≤ 102
        · obtain ⟨hl0, hl1⟩ := hlet
          have hq : ¬ c.toNat = 95 := fun h => by
            have e : c = 95 := UInt8.toNat_inj.1 h
            rw [e] at hl1
            exact absurd hl1 (by decide +kernel)
          by_cases hov : 4294967295 < acc * 16 + (lowN c - 87)
          · have hF : parse16 acc (c :: bs.drop (k + 1)) = some none := by simp only [parse16]; rw [if_neg hdig, if_pos ⟨hl0, hl1⟩, if_pos hov]
            rw [hF] at hdec
            generalize hm : Go.bits BinOp.or IntKind.u8 (c.toNat : Int) 32 = m at hv0 hv1 hlow CL
            have iov : 4294967295 < a * 16 + (m - 87) := by omega
            have im0 : 97 ≤ m := by omega
            have im1 : m ≤ 102 := by omega
            clear hacc hF hov ha hlow hl0 hl1
            go_wp2_with (first | (go_at_call 193; refine (CL.out _ _).mono ?_; rintro e w' ⟨rfl, rfl⟩; try rw [hm]))
            all_goals go_ret2
            all_goals exact ⟨by first | rfl | (rw [hdec]; rfl), rfl⟩
          · have hF : parse16 acc (c :: bs.drop (k + 1)) = parse16 (acc * 16 + (lowN c - 87)) (bs.drop (k + 1)) := by simp only [parse16]; rw [if_neg hdig, if_pos ⟨hl0, hl1⟩, if_neg hov]
            generalize hm : Go.bits BinOp.or IntKind.u8 (c.toNat : Int) 32 = m at hv0 hv1 hlow CL
            have HN : Hid (a * 16 + (m - 87) = ((acc * 16 + (lowN c - 87) : Nat) : Int) ∧ acc * 16 + (lowN c - 87) ≤ 4294967295 ∧ parse16 0 bs = parse16 (acc * 16 + (lowN c - 87)) (bs.drop (k + 1))) := Lib.hid ⟨by omega, by omega, hdec.trans hF⟩
            have iov : a * 16 + (m - 87) ≤ 4294967295 := by omega
            have im0 : 97 ≤ m := by omega
            have im1 : m ≤ 102 := by omega
            clear hacc hF hov hdec ha hlow hl0 hl1
            go_wp2_with (first | (go_at_call 193; refine (CL.out _ _).mono ?_; rintro e w' ⟨rfl, rfl⟩; try rw [hm]))
            all_goals refine ⟨⟨k + 1, acc * 16 + (lowN c - 87), a * 16 + (m - 87), rfl, (by first | rfl | (congr 1; omega)), (by first | rfl | (congr 1; omega)), by omega, HN⟩, by simp [intOf]; omega⟩
        · have hF : parse16 acc (c :: bs.drop (k + 1)) = none := by simp only [parse16]; rw [if_neg hdig, if_neg hlet]
          rw [hF] at hdec
          generalize hm : Go.bits BinOp.or IntKind.u8 (c.toNat : Int) 32 = m at hv0 hv1 hlow
          have ilet : m < 97 ∨ 102 < m := by omega
          clear hacc hF ha hlow hlet
          go_wp2_with (first | (go_at_call 193; refine (CL.out _ _).mono ?_; rintro e w' ⟨rfl, rfl⟩; try rw [hm]))
          all_goals go_ret2
          all_goals exact ⟨by first | rfl | (rw [hdec]; rfl), rfl⟩
    · have hkk : k = t.size := by omega
      subst hkk
      have hF : parse16 acc (bs.drop t.size) = some (some acc) := by rw [List.drop_eq_nil_of_le (by omega)]; rfl
      rw [hF] at hdec
      subst ha
      clear hacc hF a0 a1
      go_wp2
      go_ret2
      exact ⟨by first | rfl | (rw [hdec]; rfl), rfl⟩
/-- What the inner ParseUint answers. -/
def pN (l : List UInt8) : Option (Option Nat) := if l = [] then none else parse16 0 l
theorem internal_ParseUint_any (t : ByteArray) (hmax : t.size ≤ 281474976710656) (w : World) :
    Calls Tryd.prog 176 #[.string t, .int .i64 16, .int .i64 32] w fun e w' => e = .returned (peT 217 (pN t.data.toList)) ∧ Below w.heap.size w w' := by
  by_cases h0 : t.size = 0
  · have hd : t.data.toList = [] := List.eq_nil_of_length_eq_zero (by rw [← h0]; exact Array.length_toList)
    obtain rfl : t = ⟨#[]⟩ := by
      obtain ⟨⟨l⟩⟩ := t
      have : l = [] := hd
      subst this
      rfl
    refine (AnyPu.internal_strconv_ParseUint_empty { Tryd.laysPu14 with } 16 32 w).mono fun e w' ⟨he, hw⟩ => ⟨he, by rw [hw]; exact Below.refl _ _⟩
  · refine (internal_ParseUint_16 t h0 (by omega) w).mono fun e w' ⟨he, hw⟩ => ⟨?_, by rw [hw]; exact Lib.bytesWorld_below _ _ _⟩
    have hd : t.data.toList ≠ [] := fun h => h0 (by show t.data.size = 0; rw [← Array.length_toList (xs := t.data), h]; rfl)
    rw [he, pN, if_neg hd]
theorem parse16_lt : ∀ (l : List UInt8) (acc u : Nat), acc < 4294967296 → parse16 acc l = some (some u) → u < 4294967296
  | [], acc, u, h0, h => by
    simp only [parse16] at h
    cases h
    exact h0
  | c :: r, acc, u, h0, h => by
    simp only [parse16] at h
    split at h
    · split at h
      · cases h
      · exact parse16_lt r _ u (by omega) h
    · split at h
      · split at h
        · cases h
        · exact parse16_lt r _ u (by omega) h
      · cases h
theorem pN_lt {l : List UInt8} {u : Nat} (h : pN l = some (some u)) : u < 4294967296 := by
  unfold pN at h
  split at h
  · cases h
  · exact parse16_lt l 0 u (by omega) h
set_option maxRecDepth 100000 in
theorem ParseUint_ok (s : ByteArray) (hmax : s.size ≤ 281474976710656) (u : Nat) (h : pN s.data.toList = some (some u)) (w : World) :
    Calls Tryd.prog 154 #[.string s, .int .i64 16, .int .i64 32] w fun e w' => e = .returned (.tuple #[.int .u64 u, .nilIface]) ∧ Below w.heap.size w w' := by
  have hI := internal_ParseUint_any s hmax w
  rw [h] at hI
  have CI := Aside0.mk (show Calls Tryd.prog 176 #[.string s, .int .i64 16, .int .i64 32] w fun e w' => e = .returned (.tuple #[.int .u64 u, .nilIface]) ∧ Below w.heap.size w w' from hI)
  clear hI h
  go_enter Tryd.func154, Tryd.ntmps154
  go_wp2_with (fail)
  (with_reducible refine (CI.out).mono ?_)
  rintro e W1 ⟨rfl, hW⟩
  go_wp2
  go_ret2
  exact ⟨rfl, hW⟩
set_option maxRecDepth 100000 in
theorem ParseUint_bad (s : ByteArray) (hmax : s.size ≤ 281474976710656) (h : pN s.data.toList = none) (w : World) (hG : GX w) :
    Calls Tryd.prog 154 #[.string s, .int .i64 16, .int .i64 32] w fun e w' => ∃ N, e = .returned (.tuple #[.int .u64 0, .iface 219 (.pointer (some ⟨N, 0, none⟩))]) ∧ Below w.heap.size w w' := by
  have hI := internal_ParseUint_any s hmax w
  rw [h] at hI
  have CI := Aside0.mk (show Calls Tryd.prog 176 #[.string s, .int .i64 16, .int .i64 32] w fun e w' => e = .returned (.tuple #[.int .u64 0, .iface 217 (.int .i64 2)]) ∧ Below w.heap.size w w' from hI)
  have CE := Aside0.mk (show ∀ W, GX W → Calls Tryd.prog 177 #[.string ⟨#[80, 97, 114, 115, 101, 85, 105, 110, 116]⟩, .string s, .int .i64 16, .int .i64 32, .iface 217 (.int .i64 2)] W fun e w' => ∃ N, e = .returned (.iface 219 (.pointer (some ⟨N, 0, none⟩))) ∧ Below W.heap.size W w' from fun W h => by
    obtain ⟨ev, hv, hev⟩ := h.es
    exact (AnyPu.strconv_toError_syntax { Tryd.laysPu14 with } ⟨#[80, 97, 114, 115, 101, 85, 105, 110, 116]⟩ s 16 32 ev W hmax hv hev).mono fun e w' ⟨N, he, _, _, hb⟩ => ⟨N, he, hb⟩)
  have HG := Aside0.mk hG
  clear hI h hG
  go_enter Tryd.func154, Tryd.ntmps154
  go_wp2_with (fail)
  (with_reducible refine (CI.out).mono ?_)
  rintro e W1 ⟨rfl, hW⟩
  go_wp2_with (fail)
  (with_reducible refine (CE.out _ (HG.out.below hW)).mono ?_)
  rintro e W2 ⟨N, rfl, h3⟩
  go_wp2
  go_ret2
  exact ⟨N, rfl, hW.trans (h3.mono hW.size)⟩
set_option maxRecDepth 100000 in
theorem ParseUint_over (s : ByteArray) (hmax : s.size ≤ 281474976710656) (h : pN s.data.toList = some none) (w : World) (hG : GX w) :
    Calls Tryd.prog 154 #[.string s, .int .i64 16, .int .i64 32] w fun e w' => ∃ N, e = .returned (.tuple #[.int .u64 4294967295, .iface 219 (.pointer (some ⟨N, 0, none⟩))]) ∧ Below w.heap.size w w' := by
  have hI := internal_ParseUint_any s hmax w
  rw [h] at hI
  have CI := Aside0.mk (show Calls Tryd.prog 176 #[.string s, .int .i64 16, .int .i64 32] w fun e w' => e = .returned (.tuple #[.int .u64 4294967295, .iface 217 (.int .i64 1)]) ∧ Below w.heap.size w w' from hI)
  have CE := Aside0.mk (show ∀ W, GX W → Calls Tryd.prog 177 #[.string ⟨#[80, 97, 114, 115, 101, 85, 105, 110, 116]⟩, .string s, .int .i64 16, .int .i64 32, .iface 217 (.int .i64 1)] W fun e w' => ∃ N, e = .returned (.iface 219 (.pointer (some ⟨N, 0, none⟩))) ∧ Below W.heap.size W w' from fun W h => by
    obtain ⟨ev, hv, hev⟩ := h.er
    exact (AnyPu.strconv_toError_range { Tryd.laysPu14 with } ⟨#[80, 97, 114, 115, 101, 85, 105, 110, 116]⟩ s 16 32 ev W hmax hv hev).mono fun e w' ⟨N, he, _, _, hb⟩ => ⟨N, he, hb⟩)
  have HG := Aside0.mk hG
  clear hI h hG
  go_enter Tryd.func154, Tryd.ntmps154
  go_wp2_with (fail)
  (with_reducible refine (CI.out).mono ?_)
  rintro e W1 ⟨rfl, hW⟩
  go_wp2_with (fail)
  (with_reducible refine (CE.out _ (HG.out.below hW)).mono ?_)
  rintro e W2 ⟨N, rfl, h3⟩
  go_wp2
  go_ret2
  exact ⟨N, rfl, hW.trans (h3.mono hW.size)⟩
/-- The number that impl.readHex reads, and whether there is one. -/
def rdH (l : List UInt8) : Nat × Bool := match pN l with
  | some (some n) => (n, decide (hex8 (canon n) = l))
  | none => (0, false)
  | some none => (4294967295, false)
def impl_readHex.f (a0 : ByteArray) : Option (Nat × Bool) := if a0.size ≤ 281474976710656 then some (rdH a0.data.toList) else none
set_option maxRecDepth 100000 in
theorem readHex_any (s : ByteArray) (hmax : s.size ≤ 281474976710656) (w : World) (hG : GX w) :
    Calls Tryd.prog 122 #[.string s] w fun e w' => e = .returned (.tuple #[.float .f32 (rdH s.data.toList).1, .bool (rdH s.data.toList).2]) ∧ Below w.heap.size w w' := by
  have hfrom := fun n W => f32from_run n W
  have HG := Aside0.mk hG
  clear hG
  cases hp : pN s.data.toList with
  | none =>
    have hr : rdH s.data.toList = (0, false) := by unfold rdH; rw [hp]
    rw [hr]
    clear hr
    go_enter Tryd.func122, Tryd.ntmps122
    go_wp2_with (fail)
    (with_reducible refine (ParseUint_bad s hmax hp _ HG.out).mono ?_)
    rintro e w1 ⟨N, rfl, hb1⟩
    go_wp2
    go_ret2
    exact ⟨rfl, hb1⟩
  | some o =>
    cases o with
    | some n =>
      have hn := pN_lt hp
      have hr : rdH s.data.toList = (n, decide (hex8 (canon n) = s.data.toList)) := by unfold rdH; rw [hp]
      rw [hr]
      clear hr
      go_enter Tryd.func122, Tryd.ntmps122
      go_wp2_with (fail)
      (with_reducible refine (ParseUint_ok s hmax n hp _).mono ?_)
      rintro e w1 ⟨rfl, hb1⟩
      go_wp2_with (fail)
      (with_reducible refine (hexOf_any n _ hn (HG.out.gw.below hb1)).mono ?_)
      rintro e w2 ⟨rfl, hb2⟩
      have hB := below_then hb1 hb1.size hb2
      have e : (hex8 (canon n) == s.toList) = decide (hex8 (canon n) = s.data.toList) := by
        rw [Lib.toList_data]
        by_cases h : hex8 (canon n) = s.data.toList <;> simp [h]
      have E := Lib.hid e
      clear e
      go_wp2
      go_ret2
      exact ⟨congrArg (fun b => Ending.returned (Value.tuple #[.float .f32 n, .bool b])) E.out, hB⟩
    | none =>
      have hr : rdH s.data.toList = (4294967295, false) := by unfold rdH; rw [hp]
      rw [hr]
      clear hr
      go_enter Tryd.func122, Tryd.ntmps122
      go_wp2_with (fail)
      (with_reducible refine (ParseUint_over s hmax hp _ HG.out).mono ?_)
      rintro e w1 ⟨N, rfl, hb1⟩
      go_wp2
      go_ret2
      exact ⟨rfl, hb1⟩
theorem impl_readHex.calls (a0 : ByteArray) (r1 : Nat) (r2 : Bool) (w : World) (hG : GX w) (h : impl_readHex.f a0 = some (r1, r2)) :
    Calls Tryd.prog 122 #[.string a0] w fun e w' => e = .returned (.tuple #[.float .f32 r1, .bool r2]) ∧ Below w.heap.size w w' := by
  unfold impl_readHex.f at h
  split at h
  case isFalse => cases h
  rename_i hc
  have e := Option.some.inj h
  have := readHex_any a0 hc w hG
  rw [e] at this
  exact this
end Go.Proofs.YtlfgkibfhhifmaaDoor

/- The laws' marks in a list of numbers. -/
import Derived.Test.YtlfgkibfhhifmaaDoorEq
import Derived.Test.YtlfgkibfhhifmaaDoorText
namespace Go.Proofs.YtlfgkibfhhifmaaDoor
open Go.RowKit Go.Proofs.YtlfgkibfhhifmaaDoorW.PrintWords Go.Proofs.YtlfgkibfhhifmaaDoorW.PrintLast Go.Proofs.YtlfgkibfhhifmaaDoorW.PrintMore
/-- The number that is the mark n. -/
def fmk (n : Nat) : Nat := floatOfInt .f32 (n : Int)
theorem fmk_eq (n : Nat) (h : n < 2000) : ((FloatKind.f32).format.order (fmk n) (fmk n) != some .eq) = false := by
  have : ∀ j : Fin 2000, ((FloatKind.f32).format.order (fmk j.val) (fmk j.val) != some .eq) = false := by decide +kernel
  exact this ⟨n, h⟩
def markedF (s : Nat) (xs : List Nat) (i : Nat) : List Nat := (List.range i).map (fun j => fmk (s + j)) ++ xs.drop i
theorem markedF_len (s : Nat) (xs : List Nat) (i : Nat) (hi : i ≤ xs.length) : (markedF s xs i).length = xs.length := by
  simp [markedF]; omega
theorem markedF_set (s : Nat) (xs : List Nat) (i : Nat) (hi : i < xs.length) : (markedF s xs i).set i (fmk (s + i)) = markedF s xs (i + 1) := by
  have e : ((List.range i).map (fun j => fmk (s + j))).length = i := by simp
  unfold markedF
  rw [List.set_append_right _ _ (by omega), e, Nat.sub_self, List.drop_eq_getElem_cons hi, List.set_cons_zero, List.range_succ, List.map_append, List.append_assoc]
  rfl
theorem markedF_get (s : Nat) (xs : List Nat) (i : Nat) (hi : i < xs.length) : (markedF s xs xs.length).getD i 0 = fmk (s + i) := by
  unfold markedF
  rw [List.drop_length, List.append_nil]
  simp [List.getD_eq_getElem?_getD, List.getElem?_map, List.getElem?_range hi]
attribute [local go_sem] run_store_float
set_option maxRecDepth 100000 in
theorem markF_any (A : Option Addr) (c : Nat) (xs : List Nat) (s base : Nat) (ok : Nat → Prop) (w : World) (h : Kd.R (kdFl .f32) 32 w base ok (.slice A xs.length c) xs) (hl : s + xs.length < 1000000000) (hbase : base ≤ w.heap.size) :
    Calls Tryd.prog 85 #[.slice A xs.length c, .int .i64 (s : Int)] w fun e w' => e = .returned (.int .i64 ((s + xs.length : Nat) : Int)) ∧ Kd.R (kdFl .f32) 32 w' base ok (.slice A xs.length c) (markedF s xs xs.length) ∧ Below base w w' ∧ ∀ k, k < w.heap.size → some k ≠ (Value.slice A xs.length c).ownBlock → w'.heap[k]? = w.heap[k]? := by
  have H0 := Aside0.mk h
  clear h
  go_enter Tryd.func85, Tryd.ntmps85
  go_wp2
  go_loopw [1, 5] (fun v1 v5 wr => ∃ i q : Nat, q = s + i ∧ v1 = .int .i64 q ∧ v5 = .int .i64 i ∧ i ≤ xs.length ∧ Hid (Kd.R (kdFl .f32) 32 wr base ok (.slice A xs.length c) (markedF s xs i)) ∧ Hid (base ≤ wr.heap.size) ∧ Below base w wr ∧ Hid (∀ k, k < w.heap.size → some k ≠ (Value.slice A xs.length c).ownBlock → wr.heap[k]? = w.heap[k]?)) (fun _ v5 _ => xs.length - (intOf v5).toNat)
  case atStart => exact ⟨0, s, rfl, rfl, rfl, Nat.zero_le _, Lib.hid (by simpa [markedF] using H0.out), Lib.hid hbase, Below.refl _ _, Lib.hid fun _ _ _ => rfl⟩
  case round =>
    obtain ⟨i, q, hq, rfl, rfl, hi, hR, hsz, hB, hF⟩ := hrel
    by_cases hlt : i < xs.length
    · have hq1 : q < 1000000000 := by omega
      have HQ := Lib.hid hq
      clear hq
      have hR1 := hR.out
      have hlm := markedF_len s xs i hi
      obtain ⟨g, rfl, hbg⟩ : ∃ g, A = some ⟨g, 0, none⟩ ∧ base ≤ g := by
        rcases (Kd.own_of_R hR1).2 with ⟨h2, h3⟩ | ⟨g2, cap2, cur, hv, hb, _⟩
        · rw [hlm] at h3; omega
        · injection hv with k1 k2 k3; exact ⟨g2, k1, hb⟩
      have hms : (markedF s xs i).set i (fmk q) = markedF s xs (i + 1) := by rw [HQ.out]; exact markedF_set s xs i hlt
      rw [← hlm] at hR1
      obtain ⟨hc1, hf1⟩ := Kd.R_cell (0 : Nat) hR1 (i : Int) (by omega) (by omega)
      obtain ⟨hR2, hg2⟩ := Kd.R_put hR1 (i : Int) (fmk q)
      rw [hlm, Int.toNat_natCast, hms] at hR2
      rw [Int.toNat_natCast] at hc1 hf1 hg2
      have hB2 := pw_below_grown hB (some g) hsz.out hg2 (fun k hk => by cases hk; exact hbg)
      have hsz2 : base ≤ (wr.setCell ⟨g, i, none⟩ (.float .f32 (fmk q))).heap.size := by
        have := hg2.size
        have := hsz.out
        omega
      have HF2 := Lib.hid (show ∀ k, k < w.heap.size → some k ≠ (Value.slice (some ⟨g, 0, none⟩) xs.length c).ownBlock → (wr.setCell ⟨g, i, none⟩ (.float .f32 (fmk q))).heap[k]? = w.heap[k]? from fun k hk hne => (Below.heap_setCell wr ⟨g, i, none⟩ _ k (fun e => hne (by rw [e]; rfl))).trans (hF.out k hk hne))
      have HR2 := Lib.hid hR2
      have HS2 := Lib.hid hsz2
      clear hR1 hR2 hg2 hsz2 hR hB hsz hlm hms H0 hF
      go_wp2
      go_roundw
      case rel => exact ⟨i + 1, q + 1, by rw [HQ.out, Nat.add_assoc], by go_num, by go_num, by omega, HR2, HS2, hB2, HF2⟩
      case measure => simp [intOf]; omega
    · obtain rfl : i = xs.length := by omega
      subst hq
      go_wp2
      go_ret
      exact ⟨rfl, hR.out, hB, hF.out⟩
set_option maxRecDepth 100000 in
theorem heldF_any (A : Option Addr) (c : Nat) (xs ys : List Nat) (s : Nat) (w : World) (h : Kd.C (kdFl .f32) w A xs.length ys) (hy : ys.length = xs.length) (hg : ∀ i, i < xs.length → ys.getD i 0 = fmk (s + i)) (hl : s + xs.length < 2000) :
    Calls Tryd.prog 86 #[.slice A xs.length c, .int .i64 (s : Int)] w fun e w' => e = .returned (.int .i64 ((s + xs.length : Nat) : Int)) ∧ Drawn0 w w' := by
  have H0 := Aside0.mk h
  have HGET := Aside0.mk hg
  clear h hg
  go_enter Tryd.func86, Tryd.ntmps86
  go_wp2
  go_loopw [1, 5] (fun v1 v5 wr => ∃ i q : Nat, q = s + i ∧ v1 = .int .i64 q ∧ v5 = .int .i64 i ∧ i ≤ xs.length ∧ Drawn0 w wr) (fun _ v5 _ => xs.length - (intOf v5).toNat)
  case atStart => exact ⟨0, s, rfl, rfl, rfl, Nat.zero_le _, Drawn0.refl _⟩
  case round =>
    obtain ⟨i, q, hq, rfl, rfl, hi, ⟨m, rfl⟩⟩ := hrel
    by_cases hlt : i < xs.length
    · obtain ⟨ad, e, hx⟩ := at_fl H0.out i (by omega) (by omega)
      cases e
      have hk1 : (i : Int).toNat = i := by omega
      have e2 : rdOf (0 : Nat) ys (i : Int) = fmk q := by rw [hq, ← HGET.out i hlt]; simp [rdOf]
      rw [hk1, e2] at hx
      have hne := fmk_eq q (by omega)
      have HQ := Lib.hid hq
      clear hk1 e2
      have hq2 : q < 2000 := by omega
      clear hq
      unfold fmk at hx hne
      go_wp2
      go_roundw
      case rel => exact ⟨i + 1, q + 1, by rw [HQ.out, Nat.add_assoc], by go_num, by go_num, by omega, ⟨_, rfl⟩⟩
      case measure => simp [intOf]; omega
    · obtain rfl : i = xs.length := by omega
      subst hq
      go_wp2
      go_ret
      exact ⟨rfl, ⟨m, rfl⟩⟩
end Go.Proofs.YtlfgkibfhhifmaaDoor

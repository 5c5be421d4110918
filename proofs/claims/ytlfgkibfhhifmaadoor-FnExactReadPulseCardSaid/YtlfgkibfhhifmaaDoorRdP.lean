/- FnExactReadPulse: the plain law, and the walk. -/
import Derived.Test.YtlfgkibfhhifmaaDoorNrd
import Derived.Test.YtlfgkibfhhifmaaDoorEqPulse
import Derived.Deep.RegionHeld3
import Derived.BigQuiet
namespace Go.Proofs.YtlfgkibfhhifmaaDoor
open Go.RowKit Go.Proofs.YtlfgkibfhhifmaaDoorW.PrintWords Go.Proofs.YtlfgkibfhhifmaaDoorW.PrintLast Go.Proofs.YtlfgkibfhhifmaaDoorW.PrintMore Go.Proofs.YtlfgkibfhhifmaaDoor.PNrd
def geZ (b : Nat) : Bool := ((FloatKind.f32).format.order b 0 == some .gt || (FloatKind.f32).format.order b 0 == some .eq)
def okP (a b c d : Nat) : Bool := fin32 a && geZ a && fin32 b && fin32 c && fin32 d && geZ d
theorem spec_okP (a b c d : Nat) : spec_l04Is.f a b c d = some (okP a b c d, a, b, c, d) := by
  unfold spec_l04Is.f spec_l02Least.f spec_l01Finite.f okP geZ
  generalize ((FloatKind.f32).format.order a 0 == some .gt || (FloatKind.f32).format.order a 0 == some .eq) = x
  generalize ((FloatKind.f32).format.order d 0 == some .gt || (FloatKind.f32).format.order d 0 == some .eq) = y
  generalize fin32 a = p
  generalize fin32 b = q
  generalize fin32 c = r
  generalize fin32 d = s
  cases p <;> cases q <;> cases r <;> cases s <;> cases x <;> cases y <;> rfl
theorem impl_okP (a b c d : Nat) : impl_ValidPulse.f a b c d = some (okP a b c d) := by
  unfold impl_ValidPulse.f impl_areFinite.f okP geZ
  simp only [List.any_cons, List.any_nil, noFin]
  generalize ((FloatKind.f32).format.order a 0 == some .gt || (FloatKind.f32).format.order a 0 == some .eq) = x
  generalize ((FloatKind.f32).format.order d 0 == some .gt || (FloatKind.f32).format.order d 0 == some .eq) = y
  generalize fin32 a = p
  generalize fin32 b = q
  generalize fin32 c = r
  generalize fin32 d = s
  cases p <;> cases q <;> cases r <;> cases s <;> cases x <;> cases y <;> rfl
/-- The pulse that numbers tell. -/
def pulseP (a b c d : Nat) : Nat × Nat × Nat × Nat × Bool := if okP a b c d = true then (a, b, c, d, true) else (0, 0, 0, 0, false)
def pulseO : Option (List Nat) → Nat × Nat × Nat × Nat × Bool
  | some [a, b, c, d] => pulseP a b c d
  | _ => (0, 0, 0, 0, false)
theorem pulseO_four (ys : List Nat) (h : ys.length = 4) : ∃ a b c d, ys = [a, b, c, d] := by
  match ys, h with
  | [a, b, c, d], _ => exact ⟨a, b, c, d, rfl⟩
theorem pulseO_no (ys : List Nat) (h : ys.length ≠ 4) : pulseO (some ys) = (0, 0, 0, 0, false) := by
  match ys, h with
  | [], _ => rfl
  | [_], _ => rfl
  | [_, _], _ => rfl
  | [_, _, _], _ => rfl
  | _ :: _ :: _ :: _ :: _ :: _, _ => rfl
theorem impl_pulse (l : List UInt8) (hl : l.length ≤ 1048576) : ∃ k, impl_ReadPulse.f k (strB l) = some (pulseO (rdNums l)) := by
  obtain ⟨k, hk⟩ := impl_ReadNumbers_all l hl
  refine ⟨k + 1, ?_⟩
  have hk1 := impl_ReadNumbers.mono _ _ _ hk
  unfold impl_ReadPulse.f
  rw [hk1, Option.bind_some]
  unfold nrdR nrdO
  cases rdNums l with
  | none => rfl
  | some ys =>
    simp only [List.nil_append, if_true]
    by_cases h4 : ys.length = 4
    · obtain ⟨a, b, c, d, rfl⟩ := pulseO_four ys h4
      rw [impl_ReadPulse.j0]
      rw [if_neg (by simp), if_pos (by simp), if_pos (by simp), if_pos (by simp), if_pos (by simp)]
      show (impl_ValidPulse.f a b c d).bind _ = some (pulseP a b c d)
      rw [impl_okP]
      unfold pulseP
      cases okP a b c d <;> rfl
    · rw [pulseO_no ys h4, impl_ReadPulse.j0, if_pos (by simp; omega)]
theorem rd4 (a b c d : Nat) : rdOf (0 : Nat) [a, b, c, d] 0 = a ∧ rdOf (0 : Nat) [a, b, c, d] 1 = b ∧ rdOf (0 : Nat) [a, b, c, d] 2 = c ∧ rdOf (0 : Nat) [a, b, c, d] 3 = d := ⟨rfl, rfl, rfl, rfl⟩
theorem nrd_some (l : List UInt8) (ys : List Nat) (h : rdNums l = some ys) : nrdR l = (ys, true) := by unfold nrdR; rw [h]; rfl
theorem nrd_none (l : List UInt8) (h : rdNums l = none) : nrdR l = ([], false) := by unfold nrdR; rw [h]; rfl
attribute [local go_sem] run_store_float
set_option maxHeartbeats 4000000 in
set_option maxRecDepth 100000 in
theorem l08ReadPulse_no (l : List UInt8) (w : World) (ys : List Nat) (ok : Bool) (k : Nat) (h : spec_l01NRead.f k (strB l) = some (ys, ok)) (hno : ok = false ∨ ys.length ≠ 4) :
    Calls Tryd.prog 80 #[.string (strB l)] w fun e w' => e = .returned (.tuple #[.agg #[.float .f32 0, .float .f32 0, .float .f32 0, .float .f32 0], .bool false]) ∧ Below w.heap.size w w' := by
  have CN := Aside0.mk (show ∀ W, Calls Tryd.prog 120 #[.string (strB l)] W fun e w' => ∃ v0_ : Value, e = .returned (.tuple #[v0_, .bool ok]) ∧ Kd.R (kdFl .f32) 32 w' W.heap.size (fun _ => True) v0_ ys ∧ Below W.heap.size W w' from fun W => spec_l01NRead.calls k _ ys ok W h)
  clear h
  generalize strB l = t at CN ⊢
  go_enter Tryd.func80, Tryd.ntmps80
  go_wp2_with (fail)
  (with_reducible refine (CN.out _).mono ?_)
  rintro e w1 ⟨v, rfl, hr, hb1⟩
  obtain ⟨A, c, rfl, hc, hC⟩ := Kd.R_reads hr
  have HC := Aside0.mk hC
  have hB1 := below_then (below_alloc (Below.refl w.heap.size w) _) (by simp) hb1
  have BK := Aside0.mk (blk_below (heap_alloc_new w _) hb1)
  clear hr hC hb1
  have ac0 : w1.cell? ⟨w.heap.size, 0, none⟩ = some (.float .f32 0) := (blk_cell BK.out 0).trans rfl
  have af0 := blk_frozen BK.out 0
  have ac1 : w1.cell? ⟨w.heap.size, 1, none⟩ = some (.float .f32 0) := (blk_cell BK.out 1).trans rfl
  have af1 := blk_frozen BK.out 1
  have ac2 : w1.cell? ⟨w.heap.size, 2, none⟩ = some (.float .f32 0) := (blk_cell BK.out 2).trans rfl
  have af2 := blk_frozen BK.out 2
  have ac3 : w1.cell? ⟨w.heap.size, 3, none⟩ = some (.float .f32 0) := (blk_cell BK.out 3).trans rfl
  have af3 := blk_frozen BK.out 3
  cases ok with
  | false =>
    go_wp2
    refine bodyPost_ret (results_ct rfl _ _ w.heap.size 36 #[.float .f32 0, .float .f32 0, .float .f32 0, .float .f32 0] (0, 0) _ rfl (by (with_reducible repeat (first | refine blk_drewN ?_ _ | refine blk_drew ?_ | refine blk_alloc ?_ _)); refine blk_put (cs := #[.float .f32 0, .float .f32 0, .float .f32 0, .float .f32 0]) ?_ 3 _ rfl; (with_reducible repeat (first | refine blk_drewN ?_ _ | refine blk_drew ?_ | refine blk_alloc ?_ _)); refine blk_put (cs := #[.float .f32 0, .float .f32 0, .float .f32 0, .float .f32 0]) ?_ 2 _ rfl; (with_reducible repeat (first | refine blk_drewN ?_ _ | refine blk_drew ?_ | refine blk_alloc ?_ _)); refine blk_put (cs := #[.float .f32 0, .float .f32 0, .float .f32 0, .float .f32 0]) ?_ 1 _ rfl; (with_reducible repeat (first | refine blk_drewN ?_ _ | refine blk_drew ?_ | refine blk_alloc ?_ _)); refine blk_put (cs := #[.float .f32 0, .float .f32 0, .float .f32 0, .float .f32 0]) ?_ 0 _ rfl; (with_reducible repeat (first | refine blk_drewN ?_ _ | refine blk_drew ?_ | refine blk_alloc ?_ _)); exact BK.out) Tryd.underlying36 rfl (by kernel_rfl)) rfl ?_
    exact ⟨rfl, by repeat (first | exact hB1 | refine below_set ?_ (Nat.le_refl _) | apply below_alloc | apply pw_below_drewN | apply below_drew1)⟩
  | true =>
    have hn : ¬ (ys.length : Int) = 4 := by
      rcases hno with h | h
      · cases h
      · omega
    clear hno
    go_wp2
    refine bodyPost_ret (results_ct rfl _ _ w.heap.size 36 #[.float .f32 0, .float .f32 0, .float .f32 0, .float .f32 0] (0, 0) _ rfl (by (with_reducible repeat (first | refine blk_drewN ?_ _ | refine blk_drew ?_ | refine blk_alloc ?_ _)); refine blk_put (cs := #[.float .f32 0, .float .f32 0, .float .f32 0, .float .f32 0]) ?_ 3 _ rfl; (with_reducible repeat (first | refine blk_drewN ?_ _ | refine blk_drew ?_ | refine blk_alloc ?_ _)); refine blk_put (cs := #[.float .f32 0, .float .f32 0, .float .f32 0, .float .f32 0]) ?_ 2 _ rfl; (with_reducible repeat (first | refine blk_drewN ?_ _ | refine blk_drew ?_ | refine blk_alloc ?_ _)); refine blk_put (cs := #[.float .f32 0, .float .f32 0, .float .f32 0, .float .f32 0]) ?_ 1 _ rfl; (with_reducible repeat (first | refine blk_drewN ?_ _ | refine blk_drew ?_ | refine blk_alloc ?_ _)); refine blk_put (cs := #[.float .f32 0, .float .f32 0, .float .f32 0, .float .f32 0]) ?_ 0 _ rfl; (with_reducible repeat (first | refine blk_drewN ?_ _ | refine blk_drew ?_ | refine blk_alloc ?_ _)); exact BK.out) Tryd.underlying36 rfl (by kernel_rfl)) rfl ?_
    exact ⟨rfl, by repeat (first | exact hB1 | refine below_set ?_ (Nat.le_refl _) | apply below_alloc | apply pw_below_drewN | apply below_drew1)⟩
set_option maxHeartbeats 4000000 in
set_option maxRecDepth 100000 in
theorem l08ReadPulse_yes (l : List UInt8) (w : World) (a b c d : Nat) (k : Nat) (h : spec_l01NRead.f k (strB l) = some ([a, b, c, d], true)) (v : Bool) (hv : okP a b c d = v) :
    Calls Tryd.prog 80 #[.string (strB l)] w fun e w' => e = .returned (.tuple #[.agg #[.float .f32 (if v = true then a else 0), .float .f32 (if v = true then b else 0), .float .f32 (if v = true then c else 0), .float .f32 (if v = true then d else 0)], .bool v]) ∧ Below w.heap.size w w' := by
  have CN := Aside0.mk (show ∀ W, Calls Tryd.prog 120 #[.string (strB l)] W fun e w' => ∃ v0_ : Value, e = .returned (.tuple #[v0_, .bool true]) ∧ Kd.R (kdFl .f32) 32 w' W.heap.size (fun _ => True) v0_ [a, b, c, d] ∧ Below W.heap.size W w' from fun W => spec_l01NRead.calls k _ [a, b, c, d] true W h)
  have hok := spec_okP a b c d
  rw [hv] at hok
  have HV := Lib.hid hok
  clear h hv hok
  generalize strB l = t at CN ⊢
  go_enter Tryd.func80, Tryd.ntmps80
  go_wp2_with (fail)
  (with_reducible refine (CN.out _).mono ?_)
  rintro e w1 ⟨vv, rfl, hr, hb1⟩
  obtain ⟨A, cc, rfl, hc, hC⟩ := Kd.R_reads hr
  obtain ⟨B, rfl⟩ : ∃ g, A = some ⟨g, 0, none⟩ := by
    rcases (Kd.own_of_R hr).2 with ⟨h2, h3⟩ | ⟨g2, cap2, cur, hv, _⟩
    · simp at h3
    · cases hv; exact ⟨g2, rfl⟩
  have x0 : w1.cell? ⟨B, 0, none⟩ = some (.float .f32 a) := (Kd.R_cell (0 : Nat) hr 0 (by omega) (by simp)).1
  have x1 : w1.cell? ⟨B, 1, none⟩ = some (.float .f32 b) := (Kd.R_cell (0 : Nat) hr 1 (by omega) (by simp)).1
  have x2 : w1.cell? ⟨B, 2, none⟩ = some (.float .f32 c) := (Kd.R_cell (0 : Nat) hr 2 (by omega) (by simp)).1
  have x3 : w1.cell? ⟨B, 3, none⟩ = some (.float .f32 d) := (Kd.R_cell (0 : Nat) hr 3 (by omega) (by simp)).1
  have hBlt : B < w1.heap.size := World.block_lt_of_cell? w1 _ x0
  have hB1 := below_then (below_alloc (Below.refl w.heap.size w) _) (by simp) hb1
  have BK := Aside0.mk (blk_below (heap_alloc_new w _) hb1)
  have hc4 : (4 : Int) ≤ cc := by have : [a, b, c, d].length ≤ cc := hc; simp at this; omega
  clear hr hC hb1 hc
  go_wp2
  go_region
  all_goals go_wp2_with (fail)
  all_goals refine (spec_l04Is.calls w1.heap.size a b c d v a b c d w1 _ (by exact ⟨heap_alloc_new w1 _, Nat.le_refl _⟩) (below_drew (below_alloc (Below.refl _ _) _)) HV.out).mono ?_
  rintro e w2 ⟨rfl, hI, hb2, _⟩
  have BK2 := Aside0.mk (blk_below BK.out hb2)
  have BI := hI.1
  have hlt : w.heap.size < w1.heap.size := blk_lt BK.out
  have hB2 := below_then hB1 (Nat.le_of_lt hlt) hb2
  have hne : ¬ w.heap.size = w1.heap.size := by omega
  have hne2 : ¬ w1.heap.size = w.heap.size := by omega
  clear hI hb2 hB1 BK x0 x1 x2 x3 hBlt CN
  have bc0 : w2.cell? ⟨w1.heap.size, 0, none⟩ = some (.float .f32 a) := (blk_cell BI 0).trans rfl
  have bf0 := blk_frozen BI 0
  have bc1 : w2.cell? ⟨w1.heap.size, 1, none⟩ = some (.float .f32 b) := (blk_cell BI 1).trans rfl
  have bf1 := blk_frozen BI 1
  have bc2 : w2.cell? ⟨w1.heap.size, 2, none⟩ = some (.float .f32 c) := (blk_cell BI 2).trans rfl
  have bf2 := blk_frozen BI 2
  have bc3 : w2.cell? ⟨w1.heap.size, 3, none⟩ = some (.float .f32 d) := (blk_cell BI 3).trans rfl
  have bf3 := blk_frozen BI 3
  have ac0 : w2.cell? ⟨w.heap.size, 0, none⟩ = some (.float .f32 0) := (blk_cell BK2.out 0).trans rfl
  have af0 := blk_frozen BK2.out 0
  have ac1 : w2.cell? ⟨w.heap.size, 1, none⟩ = some (.float .f32 0) := (blk_cell BK2.out 1).trans rfl
  have af1 := blk_frozen BK2.out 1
  have ac2 : w2.cell? ⟨w.heap.size, 2, none⟩ = some (.float .f32 0) := (blk_cell BK2.out 2).trans rfl
  have af2 := blk_frozen BK2.out 2
  have ac3 : w2.cell? ⟨w.heap.size, 3, none⟩ = some (.float .f32 0) := (blk_cell BK2.out 3).trans rfl
  have af3 := blk_frozen BK2.out 3
  clear BI
  cases v with
  | false =>
    go_wp2
    refine bodyPost_ret (results_ct rfl _ _ w.heap.size 36 #[.float .f32 0, .float .f32 0, .float .f32 0, .float .f32 0] (0, 0) _ rfl (by (with_reducible repeat (first | refine blk_drewN ?_ _ | refine blk_drew ?_ | refine blk_alloc ?_ _)); refine blk_put (cs := #[.float .f32 0, .float .f32 0, .float .f32 0, .float .f32 0]) ?_ 3 _ rfl; (with_reducible repeat (first | refine blk_drewN ?_ _ | refine blk_drew ?_ | refine blk_alloc ?_ _)); refine blk_put (cs := #[.float .f32 0, .float .f32 0, .float .f32 0, .float .f32 0]) ?_ 2 _ rfl; (with_reducible repeat (first | refine blk_drewN ?_ _ | refine blk_drew ?_ | refine blk_alloc ?_ _)); refine blk_put (cs := #[.float .f32 0, .float .f32 0, .float .f32 0, .float .f32 0]) ?_ 1 _ rfl; (with_reducible repeat (first | refine blk_drewN ?_ _ | refine blk_drew ?_ | refine blk_alloc ?_ _)); refine blk_put (cs := #[.float .f32 0, .float .f32 0, .float .f32 0, .float .f32 0]) ?_ 0 _ rfl; (with_reducible repeat (first | refine blk_drewN ?_ _ | refine blk_drew ?_ | refine blk_alloc ?_ _)); exact BK2.out) Tryd.underlying36 rfl (by kernel_rfl)) rfl ?_
    exact ⟨by first | rfl | simp, by repeat (first | exact hB2 | refine below_set ?_ (Nat.le_refl _) | apply below_alloc | apply pw_below_drewN | apply below_drew1)⟩
  | true =>
    go_wp2
    refine bodyPost_ret (results_ct rfl _ _ w.heap.size 36 #[.float .f32 a, .float .f32 b, .float .f32 c, .float .f32 d] (0, 0) _ rfl (by (with_reducible repeat (first | refine blk_drewN ?_ _ | refine blk_drew ?_ | refine blk_alloc ?_ _)); refine blk_put (cs := #[.float .f32 a, .float .f32 b, .float .f32 c, .float .f32 0]) ?_ 3 _ rfl; (with_reducible repeat (first | refine blk_drewN ?_ _ | refine blk_drew ?_ | refine blk_alloc ?_ _)); refine blk_put (cs := #[.float .f32 a, .float .f32 b, .float .f32 0, .float .f32 0]) ?_ 2 _ rfl; (with_reducible repeat (first | refine blk_drewN ?_ _ | refine blk_drew ?_ | refine blk_alloc ?_ _)); refine blk_put (cs := #[.float .f32 a, .float .f32 0, .float .f32 0, .float .f32 0]) ?_ 1 _ rfl; (with_reducible repeat (first | refine blk_drewN ?_ _ | refine blk_drew ?_ | refine blk_alloc ?_ _)); refine blk_put (cs := #[.float .f32 0, .float .f32 0, .float .f32 0, .float .f32 0]) ?_ 0 _ rfl; (with_reducible repeat (first | refine blk_drewN ?_ _ | refine blk_drew ?_ | refine blk_alloc ?_ _)); exact BK2.out) Tryd.underlying36 rfl (by kernel_rfl)) rfl ?_
    exact ⟨by first | rfl | simp, by repeat (first | exact hB2 | refine below_set ?_ (Nat.le_refl _) | apply below_alloc | apply pw_below_drewN | apply below_drew1)⟩
theorem fin_isNum (b : Nat) (h : fin32 b = true) : isNum32 b = true := by
  have h' : b % 2147483648 < 2139095040 := by simpa [fin32] using h
  have e : ∃ s m p, Ieee.single.read b = .number s m p := by
    unfold Ieee.Format.read
    simp only [show Ieee.single.signWeight = 2147483648 from rfl, show Ieee.single.binade = 8388608 from rfl, show Ieee.single.infRung = 2139095040 from rfl]
    by_cases h2 : b % 2147483648 < 8388608
    · rw [if_pos h2]; exact ⟨_, _, _, rfl⟩
    · rw [if_neg h2, if_pos h']; exact ⟨_, _, _, rfl⟩
  obtain ⟨s, m, p, e⟩ := e
  show ((Ieee.single.read b).order (Ieee.single.read b) == some .eq) = true
  rw [e]
  simp [Ieee.Datum.order]
theorem zero_isNum : isNum32 0 = true := by decide +kernel
theorem pulseO_num (o : Option (List Nat)) (r1 r2 r3 r4 : Nat) (v : Bool) (h : pulseO o = (r1, r2, r3, r4, v)) : isNum32 r1 = true ∧ isNum32 r2 = true ∧ isNum32 r3 = true ∧ isNum32 r4 = true := by
  have z : ∀ r1 r2 r3 r4 : Nat, ∀ v : Bool, (0, 0, 0, 0, false) = (r1, r2, r3, r4, v) → isNum32 r1 = true ∧ isNum32 r2 = true ∧ isNum32 r3 = true ∧ isNum32 r4 = true := by
    intro r1 r2 r3 r4 v h
    cases h
    exact ⟨zero_isNum, zero_isNum, zero_isNum, zero_isNum⟩
  cases o with
  | none => exact z _ _ _ _ _ h
  | some ys =>
    by_cases h4 : ys.length = 4
    · obtain ⟨a, b, c, d, rfl⟩ := pulseO_four ys h4
      have h : pulseP a b c d = (r1, r2, r3, r4, v) := h
      unfold pulseP at h
      split at h
      · rename_i hk
        cases h
        unfold okP at hk
        simp only [Bool.and_eq_true] at hk
        exact ⟨fin_isNum _ hk.1.1.1.1.1, fin_isNum _ hk.1.1.1.2, fin_isNum _ hk.1.1.2, fin_isNum _ hk.1.2⟩
      · exact z _ _ _ _ _ h
    · rw [pulseO_no ys h4] at h
      exact z _ _ _ _ _ h
theorem l08ReadPulse_all (l : List UInt8) (hl : l.length ≤ 1048576) (r1 r2 r3 r4 : Nat) (v : Bool) (hp : pulseO (rdNums l) = (r1, r2, r3, r4, v)) (w : World) :
    Calls Tryd.prog 80 #[.string (strB l)] w fun e w' => e = .returned (.tuple #[.agg #[.float .f32 r1, .float .f32 r2, .float .f32 r3, .float .f32 r4], .bool v]) ∧ Below w.heap.size w w' := by
  obtain ⟨k, hk⟩ := spec_NRead_all l hl
  cases hr : rdNums l with
  | none =>
    rw [hr] at hp
    rw [nrd_none l hr] at hk
    have h0 : ((0 : Nat), (0 : Nat), (0 : Nat), (0 : Nat), false) = (r1, r2, r3, r4, v) := hp
    cases h0
    exact l08ReadPulse_no l w [] false k hk (.inl rfl)
  | some ys =>
    rw [hr] at hp
    rw [nrd_some l ys hr] at hk
    by_cases h4 : ys.length = 4
    · obtain ⟨a, b, c, d, rfl⟩ := pulseO_four ys h4
      have hp : pulseP a b c d = (r1, r2, r3, r4, v) := hp
      unfold pulseP at hp
      have hy := l08ReadPulse_yes l w a b c d k hk (okP a b c d) rfl
      cases hv : okP a b c d with
      | false =>
        rw [hv] at hp hy
        cases hp
        exact hy
      | true =>
        rw [hv] at hp hy
        cases hp
        exact hy
    · rw [pulseO_no ys h4] at hp
      cases hp
      exact l08ReadPulse_no l w ys true k hk (.inr h4)
set_option maxHeartbeats 4000000 in
set_option maxRecDepth 100000 in
theorem specReadPulse_all (l : List UInt8) (hl : l.length ≤ 1048576) (r1 r2 r3 r4 : Nat) (v : Bool) (hp : pulseO (rdNums l) = (r1, r2, r3, r4, v)) (w : World) :
    Calls Tryd.prog 36 #[.string (strB l)] w fun e w' => e = .returned (.tuple #[.agg #[.float .f32 r1, .float .f32 r2, .float .f32 r3, .float .f32 r4], .bool v]) ∧ Below w.heap.size w w' := by
  have CN := Aside0.mk (l08ReadPulse_all l hl r1 r2 r3 r4 v hp)
  clear hl hp
  generalize strB l = t at CN ⊢
  go_enter Tryd.func36, Tryd.ntmps36
  go_wp2_with (fail)
  (with_reducible refine (CN.out _).mono ?_)
  rintro e w1 ⟨rfl, hb1⟩
  have hB1 := below_then (below_alloc (Below.refl w.heap.size w) _) (by simp) hb1
  have BK := Aside0.mk (blk_below (heap_alloc_new w _) hb1)
  clear hb1 CN
  have ac0 : w1.cell? ⟨w.heap.size, 0, none⟩ = some (.float .f32 0) := (blk_cell BK.out 0).trans rfl
  have af0 := blk_frozen BK.out 0
  have ac1 : w1.cell? ⟨w.heap.size, 1, none⟩ = some (.float .f32 0) := (blk_cell BK.out 1).trans rfl
  have af1 := blk_frozen BK.out 1
  have ac2 : w1.cell? ⟨w.heap.size, 2, none⟩ = some (.float .f32 0) := (blk_cell BK.out 2).trans rfl
  have af2 := blk_frozen BK.out 2
  have ac3 : w1.cell? ⟨w.heap.size, 3, none⟩ = some (.float .f32 0) := (blk_cell BK.out 3).trans rfl
  have af3 := blk_frozen BK.out 3
  go_wp2
  refine bodyPost_ret (results_ct rfl _ _ w.heap.size 36 #[.float .f32 r1, .float .f32 r2, .float .f32 r3, .float .f32 r4] (0, 0) _ rfl (by (with_reducible repeat (first | refine blk_drewN ?_ _ | refine blk_drew ?_ | refine blk_alloc ?_ _)); refine blk_put (cs := #[.float .f32 r1, .float .f32 r2, .float .f32 r3, .float .f32 0]) ?_ 3 _ rfl; (with_reducible repeat (first | refine blk_drewN ?_ _ | refine blk_drew ?_ | refine blk_alloc ?_ _)); refine blk_put (cs := #[.float .f32 r1, .float .f32 r2, .float .f32 0, .float .f32 0]) ?_ 2 _ rfl; (with_reducible repeat (first | refine blk_drewN ?_ _ | refine blk_drew ?_ | refine blk_alloc ?_ _)); refine blk_put (cs := #[.float .f32 r1, .float .f32 0, .float .f32 0, .float .f32 0]) ?_ 1 _ rfl; (with_reducible repeat (first | refine blk_drewN ?_ _ | refine blk_drew ?_ | refine blk_alloc ?_ _)); refine blk_put (cs := #[.float .f32 0, .float .f32 0, .float .f32 0, .float .f32 0]) ?_ 0 _ rfl; (with_reducible repeat (first | refine blk_drewN ?_ _ | refine blk_drew ?_ | refine blk_alloc ?_ _)); exact BK.out) Tryd.underlying36 rfl (by kernel_rfl)) rfl ?_
  exact ⟨rfl, by repeat (first | exact hB1 | refine below_set ?_ (Nat.le_refl _) | apply below_alloc | apply pw_below_drewN | apply below_drew1)⟩
set_option maxHeartbeats 4000000 in
set_option maxRecDepth 100000 in
theorem fnReadPulse_any (l : List UInt8) (w : World) (hG : GX w) (hl : l.length ≤ 9223372036854775807) :
    Calls Tryd.prog 8 #[.string (strB l)] w fun e w' => e = .returned (.bool true) ∧ Below w.heap.size w w' := by
  have hsz : (strB l).size = l.length := strB_size l
  by_cases hbig : 1048576 < l.length
  · have hb1 : (1048576 : Int) < ((strB l).size : Int) := by omega
    clear hsz hbig
    generalize strB l = t at *
    go_enter Tryd.func8, Tryd.ntmps8
    go_wp2
    go_ret
    exact ⟨rfl, Below.refl _ _⟩
  · have hl1 : l.length ≤ 1048576 := by omega
    have hb1 : ¬ (1048576 : Int) < ((strB l).size : Int) := by omega
    obtain ⟨k, hk⟩ := impl_pulse l hl1
    obtain ⟨r1, r2, r3, r4, v, hr⟩ : ∃ r1 r2 r3 r4 v, pulseO (rdNums l) = (r1, r2, r3, r4, v) := ⟨_, _, _, _, _, rfl⟩
    obtain ⟨n1, n2, n3, n4⟩ := pulseO_num _ _ _ _ _ _ hr
    rw [hr] at hk
    have CS := Aside0.mk (specReadPulse_all l hl1 r1 r2 r3 r4 v hr)
    have CI := Aside0.mk (show ∀ W, GX W → Calls Tryd.prog 37 #[.string (strB l)] W fun e w' => e = .returned (.tuple #[.agg #[.float .f32 r1, .float .f32 r2, .float .f32 r3, .float .f32 r4], .bool v]) ∧ Below W.heap.size W w' from fun W h => impl_ReadPulse.calls k _ r1 r2 r3 r4 v W h hk)
    have CE := Aside0.mk (show ∀ W, Calls Tryd.prog 38 #[.agg #[.float .f32 r1, .float .f32 r2, .float .f32 r3, .float .f32 r4], .agg #[.float .f32 r1, .float .f32 r2, .float .f32 r3, .float .f32 r4]] W fun e w' => e = .returned (.bool true) ∧ Below W.heap.size W w' from fun W => eqPulse_any r1 r2 r3 r4 W n1 n2 n3 n4)
    have HG := Aside0.mk hG
    clear hG hsz hbig hl hl1 hk hr n1 n2 n3 n4
    generalize strB l = t at *
    go_enter Tryd.func8, Tryd.ntmps8
    go_wp2_with (fail)
    (with_reducible refine (CS.out _).mono ?_)
    rintro e w1 ⟨rfl, hB1⟩
    have bk1 : (w1.alloc (.cells #[.float .f32 r1, .float .f32 r2, .float .f32 r3, .float .f32 r4] 36)).heap[w1.heap.size]? = _ := heap_alloc_new w1 _
    have BK1 := Aside0.mk bk1
    have hBa := below_alloc hB1 (.cells #[.float .f32 r1, .float .f32 r2, .float .f32 r3, .float .f32 r4] 36)
    clear bk1
    go_wp2_with (fail)
    (with_reducible refine (CI.out _ (HG.out.below hBa)).mono ?_)
    rintro e w2 ⟨rfl, hb2⟩
    have bk2 := blk_below BK1.out hb2
    have hB2 := below_then hBa hBa.size hb2
    have c0 : w2.cell? ⟨w1.heap.size, 0, none⟩ = some (.float .f32 r1) := (blk_cell bk2 0).trans rfl
    have c1 : w2.cell? ⟨w1.heap.size, 1, none⟩ = some (.float .f32 r2) := (blk_cell bk2 1).trans rfl
    have c2 : w2.cell? ⟨w1.heap.size, 2, none⟩ = some (.float .f32 r3) := (blk_cell bk2 2).trans rfl
    have c3 : w2.cell? ⟨w1.heap.size, 3, none⟩ = some (.float .f32 r4) := (blk_cell bk2 3).trans rfl
    have hlt := blk_lt bk2
    clear bk2 BK1 hb2 hBa CS CI HG
    go_wp2_with (fail)
    (with_reducible refine (CE.out _).mono ?_)
    rintro e w3 ⟨rfl, hb3⟩
    have hB3 := below_then (below_alloc hB2 _) (by have := hB2.size; simp; omega) hb3
    clear hb3 c0 c1 c2 c3 hB2 CE
    cases v
    · go_wp2
      go_ret
      exact ⟨rfl, hB3⟩
    · go_wp2
      go_ret
      exact ⟨rfl, hB3⟩
end Go.Proofs.YtlfgkibfhhifmaaDoor

/- The lines of a text; the check number and the digits without a count of rounds. -/
import Derived.Test.YtlfgkibfhhifmaaDoorSplit
import Derived.BigQuiet
namespace Go.Proofs.YtlfgkibfhhifmaaDoor
open Go.RowKit Go.Proofs.YtlfgkibfhhifmaaDoorW.PrintWords Go.Proofs.YtlfgkibfhhifmaaDoorW.PrintLast Go.Proofs.YtlfgkibfhhifmaaDoorW.PrintMore
def spec_l01Check.f (a0 : Int) (a1 : ByteArray) : Option Int := if 0 ≤ a0 ∧ a0 < 65003 ∧ a1.size < 4611686018427387904 then some ((chk a0.toNat a1.data.toList : Nat) : Int) else none
theorem spec_l01Check.calls (a0 : Int) (a1 : ByteArray) (r : Int) (w : World) (h : spec_l01Check.f a0 a1 = some r) :
    Calls Tryd.prog 87 #[.int .i64 a0, .string a1] w fun e w' => e = .returned (.int .i64 r) ∧ Drawn0 w w' := by
  unfold spec_l01Check.f at h
  split at h
  case isFalse => cases h
  rename_i hc
  obtain rfl := Option.some.inj h
  obtain ⟨n, rfl⟩ := Int.eq_ofNat_of_zero_le hc.1
  have hl : a1.data.toList.length = a1.size := Array.length_toList
  have := spec_chk a1.data.toList n 0 (by omega) (by omega)
  rw [strB_self] at this
  exact PDec.spec_l01Check.calls _ _ a1 _ w this
def spec_l01Dec.f (a0 : Int) : Option ByteArray := if 0 ≤ a0 ∧ a0 < 65003 then some (strB (Lib.itoa a0)) else none
theorem spec_l01Dec.calls (a0 : Int) (r : ByteArray) (w : World) (h : spec_l01Dec.f a0 = some r) :
    Calls Tryd.prog 88 #[.int .i64 a0] w fun e w' => e = .returned (.string r) ∧ Below w.heap.size w w' := by
  unfold spec_l01Dec.f at h
  split at h
  case isFalse => cases h
  rename_i hc
  obtain rfl := Option.some.inj h
  obtain ⟨n, rfl⟩ := Int.eq_ofNat_of_zero_le hc.1
  exact PDec.spec_l01Dec.calls _ _ _ w (spec_dec n (by omega))
/-- The lines that end, and what is left behind them. -/
def segs (l : List UInt8) : List ByteArray := (splitA 10 [] l).map strB
theorem segs_pos (l : List UInt8) : 1 ≤ (segs l).length := by
  unfold segs
  rw [splitA_step]
  simp
theorem R_dropLast {w : World} {base : Nat} {g cap : Nat} {xs : List ByteArray} (h : Kd.R Kd.string 9 w base (fun _ => True) (.slice (some ⟨g, 0, none⟩) xs.length cap) xs) (m : Nat) (hm : m ≤ xs.length) :
    Kd.R Kd.string 9 w base (fun _ => True) (.slice (some ⟨g, 0, none⟩) m cap) (xs.take m) := by
  obtain ⟨h1, h2⟩ := Kd.own_of_R h
  refine Kd.R_of_own ?_ fun _ _ => trivial
  have hl : (xs.take m).length = m := by simp; omega
  rw [hl]
  refine ⟨by simp [encs]; omega, ?_⟩
  rcases h2 with ⟨h2, _⟩ | ⟨g2, cap2, cur, hv, hb, hh, hn, hc, hs, ht⟩
  · cases h2
  · cases hv
    refine .inr ⟨g, cap, cur, rfl, hb, hh, by omega, hc, hs, ?_⟩
    have e : encs Value.string (xs.take m) = (encs Value.string xs).take m := by simp [encs, List.map_take]
    rw [e, ← ht, List.take_take]
    congr 1
    omega
def spec_l08Lines.f (a0 : ByteArray) : Option (List ByteArray × ByteArray) := if a0.size < 4398046511104 then some ((segs a0.data.toList).take ((segs a0.data.toList).length - 1), rdOf ByteArray.empty (segs a0.data.toList) (((segs a0.data.toList).length - 1 : Nat) : Int)) else none
set_option maxRecDepth 100000 in
theorem l08Lines_any (l : List UInt8) (w : World) (hl : l.length < 4398046511104) :
    Calls Tryd.prog 93 #[.string (strB l)] w fun e w' => ∃ v0_ : Value, e = .returned (.tuple #[v0_, .string (rdOf ByteArray.empty (segs l) (((segs l).length - 1 : Nat) : Int))]) ∧ Kd.R Kd.string 9 w' w.heap.size (fun _ => True) v0_ ((segs l).take ((segs l).length - 1)) ∧ Below w.heap.size w w' := by
  have hp := segs_pos l
  have HC := Lib.hid (show PCut.spec_l01Cut.f _ (strB l) 10 = some (segs l) from spec_cut 10 l hl)
  clear hl
  generalize segs l = xs at hp HC ⊢
  obtain ⟨m, hm⟩ : ∃ m, xs.length = m + 1 := ⟨xs.length - 1, by omega⟩
  rw [hm, Nat.add_sub_cancel]
  generalize hz : rdOf ByteArray.empty xs (m : Int) = z
  generalize hy : xs.take m = ys
  go_enter Tryd.func93, Tryd.ntmps93
  go_wp2_with (fail)
  refine (PCut.spec_l01Cut.calls _ (strB l) 10 xs _ HC.out).mono ?_
  rintro e w1 ⟨v, rfl, hr, hb1⟩
  obtain ⟨A, c, rfl, hc, hC⟩ := Kd.R_reads hr
  obtain ⟨ad, e, hx⟩ := Kd.at_string hC (m : Int) (by omega) (by omega)
  obtain ⟨B, rfl⟩ : ∃ g, A = some ⟨g, 0, none⟩ := by
    rcases (Kd.own_of_R hr).2 with ⟨h2, h3⟩ | ⟨g2, cap2, cur, hv, _⟩
    · omega
    · cases hv; exact ⟨g2, rfl⟩
  obtain rfl : (⟨B, 0, none⟩ : Addr) = ad := Option.some.inj e
  clear e
  have hmax : xs.length ≤ 9223372036854775807 := hC.2.1
  have hd := R_dropLast hr m (by omega)
  rw [hy] at hd
  have HD := Aside0.mk hd
  rw [hz] at hx
  rw [hm] at hc hmax ⊢
  have hx1 : w1.cell? ⟨B, m, none⟩ = some (.string z) := by
    rw [Int.toNat_natCast, add_plain] at hx
    simpa using hx
  have hb2 : (m : Int) ≤ c := by omega
  clear hr hC hx HC hp hm hz hy hd
  go_wp2
  go_region
  all_goals go_wp2
  all_goals go_ret2
  all_goals exact ⟨_, rfl, HD.out, below_drew hb1⟩
theorem spec_l08Lines.calls (a0 : ByteArray) (r1 : List ByteArray) (r2 : ByteArray) (w : World) (h : spec_l08Lines.f a0 = some (r1, r2)) :
    Calls Tryd.prog 93 #[.string a0] w fun e w' => ∃ v0_ : Value, e = .returned (.tuple #[v0_, .string r2]) ∧ Kd.R Kd.string 9 w' w.heap.size (fun _ => True) v0_ r1 ∧ Below w.heap.size w w' := by
  unfold spec_l08Lines.f at h
  split at h
  case isFalse => cases h
  rename_i hc
  obtain ⟨rfl, rfl⟩ := Prod.mk.inj (Option.some.inj h)
  have hl : a0.data.toList.length = a0.size := Array.length_toList
  have := l08Lines_any a0.data.toList w (by omega)
  rw [strB_self] at this
  exact this
end Go.Proofs.YtlfgkibfhhifmaaDoor

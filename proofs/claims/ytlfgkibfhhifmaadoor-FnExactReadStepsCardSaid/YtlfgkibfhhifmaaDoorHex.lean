/- The numeral of a number in base 16, as the library writes it. -/
import Derived.Test.YtlfgkibfhhifmaaDoorFl
import Derived.WalkKit
import Derived.WalkLawsBesides
import Derived.WalkSpells
import Derived.Outline
import Derived.Laws.Bits64b
import Derived.Lib.Hide
namespace Go.Proofs.YtlfgkibfhhifmaaDoor
open Go.RowKit
def hexD (n : Nat) : UInt8 := if n < 10 then UInt8.ofNat (48 + n) else UInt8.ofNat (87 + n)
def hexL (n : Nat) : List UInt8 := if _h : n < 16 then [hexD n] else hexL (n / 16) ++ [hexD (n % 16)]
termination_by n
def hexRow (k : Nat) (acc : List UInt8) : Array Value := (List.replicate k (Value.int .u8 0) ++ acc.map (fun c => Value.int .u8 (c.toNat : Int))).toArray
theorem hexRow_get (k : Nat) (acc : List UInt8) (h : 1 ≤ k) : (hexRow k acc)[k - 1]? = some (Value.int .u8 0) := by
  simp [hexRow, List.getElem?_append, show k - 1 < k by omega]
theorem hexRow_set (k : Nat) (acc : List UInt8) (c : UInt8) (h : 1 ≤ k) : (hexRow k acc).setIfInBounds (k - 1) (Value.int .u8 (c.toNat : Int)) = hexRow (k - 1) (c :: acc) := by
  obtain ⟨j, rfl⟩ : ∃ j, k = j + 1 := ⟨k - 1, by omega⟩
  apply Array.ext'
  simp only [hexRow, Nat.add_sub_cancel, Array.toList_setIfInBounds, List.replicate_succ', List.append_assoc, List.map_cons]
  rw [List.set_append_right _ _ (by simp)]
  simp
theorem hex_step (u m k : Nat) (hu : u < 18446744073709551616) (hm : 16 ≤ m) (hk : k ≤ 65) (h : m * 16 ^ (65 - k) ≤ u) : 51 ≤ k ∧ m / 16 * 16 ^ (65 - (k - 1)) ≤ u := by
  have h1 : 51 ≤ k := by
    rcases Nat.lt_or_ge k 51 with hlt | hge
    · exfalso
      have h2 : 16 ^ 15 ≤ 16 ^ (65 - k) := Nat.pow_le_pow_right (by omega) (by omega)
      have h3 : 16 * 16 ^ 15 ≤ m * 16 ^ (65 - k) := Nat.mul_le_mul hm h2
      omega
    · exact hge
  refine ⟨h1, ?_⟩
  have e : 65 - (k - 1) = (65 - k) + 1 := by omega
  rw [e, Nat.pow_succ]
  have h4 : m / 16 * 16 ≤ m := Nat.div_mul_le_self m 16
  calc m / 16 * (16 ^ (65 - k) * 16) = (m / 16 * 16) * 16 ^ (65 - k) := by rw [Nat.mul_comm (16 ^ (65 - k)) 16, Nat.mul_assoc]
    _ ≤ m * 16 ^ (65 - k) := Nat.mul_le_mul_right _ h4
    _ ≤ u := h
theorem hexL_step (m : Nat) (hm : 16 ≤ m) : hexL m = hexL (m / 16) ++ [hexD (m % 16)] := by
  rw [hexL]; simp [show ¬ m < 16 by omega]
theorem hexL_small (m : Nat) (hm : m < 16) : hexL m = [hexD m] := by
  rw [hexL]; simp [hm]
abbrev digB : ByteArray := ⟨#[48, 49, 50, 51, 52, 53, 54, 55, 56, 57, 97, 98, 99, 100, 101, 102, 103, 104, 105, 106, 107, 108, 109, 110, 111, 112, 113, 114, 115, 116, 117, 118, 119, 120, 121, 122]⟩
theorem digB_get (i : Nat) (h : i < digB.size) (hi : i < 16) : digB[i] = hexD i := by
  have : ∀ j : Fin 16, digB[j.val]? = some (hexD j.val) := by decide +kernel
  have h2 := this ⟨i, hi⟩
  have h3 : digB[i]? = some digB[i] := getElem?_pos digB i h
  exact Option.some.inj (h3.symm.trans h2)
theorem and15 (m : Nat) (hm : m < 18446744073709551616) : bits BinOp.and IntKind.u64 (m : Int) 15 = ((m % 16 : Nat) : Int) := by
  have h15 := bits_and_u64_nat m 15 hm (by omega)
  rw [show ((15 : Nat) : Int) = 15 from rfl] at h15
  rw [h15]
  have : m &&& 15 = m % 16 := Nat.and_two_pow_sub_one_eq_mod m 4
  rw [this]
set_option maxRecDepth 100000 in
theorem hex_str (w : World) (B k : Nat) (acc : List UInt8) (hl : acc.length = 66 - k) (hb : w.heap[B]? = some (.cells (hexRow (k - 1) acc) 209 (0, 0))) :
    (convert 48 9 (.slice (some ⟨B, k - 1, none⟩) (66 - k) (66 - k))).run Tryd.prog w = .ok (.string ⟨acc.toArray⟩) w := by
  have h := run_convert_bytes_arg (P := Tryd.prog) w 48 5 Tryd.underlying48 Tryd.underlying5 B (k - 1) (66 - k) (66 - k) (acc.map fun c => (c.toNat : Int)) (by simp [hl]) (fun i hi => by
    have hi2 : i < acc.length := by omega
    simp [World.cell?, hb, hexRow, List.getElem?_append, show ¬ (k - 1 + i < k - 1) by omega, List.getElem?_eq_getElem hi2, List.getD_eq_getElem?_getD]) 9 Tryd.underlying9
  rw [h]
  have e : strOfNums (acc.map fun c => (c.toNat : Int)) = ⟨acc.toArray⟩ := by
    unfold strOfNums
    congr 2
    rw [List.map_map]
    conv => rhs; rw [← List.map_id acc]
    apply List.map_congr_left
    intro a _
    simp
  rw [e]
theorem heap_put {w : World} {B t j : Nat} {cs : Array Value} (hb : w.heap[B]? = some (.cells cs t (0, 0))) (v : Value) : (w.setCell ⟨B, j, none⟩ v).heap[B]? = some (.cells (cs.setIfInBounds j v) t (0, 0)) := by
  simp [World.setCell, Array.getElem?_modify, hb]
theorem trailing16 (w : World) (hc : w.cell? ⟨8, 15, none⟩ = some (.int .u8 4)) :
    Calls Tryd.prog 184 #[.int .u64 16] w fun e w' => e = .returned (.int .i64 4) ∧ w = w' := by
  have hi : IntKind.u64.wrap (bits BinOp.and IntKind.u64 16 (IntKind.u64.wrap (-16)) * 285870213051353865) / 288230376151711744 = 15 := by kernel_rfl
  go_enter Tryd.func184, Tryd.ntmps184
  go_wp2
  go_ret
  exact ⟨rfl, rfl⟩
set_option maxHeartbeats 1000000 in
set_option maxRecDepth 100000 in
theorem formatBits_hex (u : Nat) (hu : u < 18446744073709551616) (w : World) (hc : w.cell? ⟨8, 15, none⟩ = some (.int .u8 4)) :
    Calls Tryd.prog 163 #[.slice none 0 0, .int .u64 u, .int .i64 16, .bool false, .bool false] w fun e w' => e = .returned (.tuple #[.slice none 0 0, .string ⟨(hexL u).toArray⟩]) ∧ Below w.heap.size w w' := by
  have hc1 : ∀ o, (w.alloc o).cell? ⟨8, 15, none⟩ = some (.int .u8 4) := fun o => by
    have := World.block_lt_of_cell? w _ hc
    exact (((Below.refl _ _).alloc (Nat.le_refl _) o).cell (p := ⟨8, 15, none⟩) this).trans hc
  go_enter Tryd.func163, Tryd.ntmps163
  go_wp2_with (first | (go_at_call 184; refine (trailing16 _ (hc1 _)).mono ?_; rintro e w' ⟨rfl, rfl⟩) | go_in)
  go_loopw [1, 13] (fun v1 v13 wr => ∃ (m k : Nat) (acc : List UInt8), v1 = .int .u64 m ∧ v13 = .int .i64 k ∧ k ≤ 65 ∧ 50 ≤ k ∧ Hid (acc.length = 65 - k) ∧ Hid (hexL u = hexL m ++ acc) ∧ Hid (m * 16 ^ (65 - k) ≤ u) ∧ Hid (wr.heap[w.heap.size]? = some (.cells (hexRow k acc) 209 (0, 0))) ∧ Below w.heap.size w wr) (fun v1 _ _ => (intOf v1).toNat)
  case atStart => exact ⟨u, 65, [], rfl, rfl, by omega, by omega, Lib.hid rfl, Lib.hid (by simp), Lib.hid (by simp), Lib.hid (by rw [show hexRow 65 [] = Tryd.zeroCells209 from by kernel_rfl]; exact heap_alloc_new w _), (Below.refl _ _).alloc (Nat.le_refl _) _⟩
  case round =>
    obtain ⟨m, k, acc, rfl, rfl, hk, hk50, hl, HE, HM, hblk, hb⟩ := hrel
    have hm64 : m < 18446744073709551616 := by
      have h1 := HM.out
      have h2 : m * 1 ≤ m * 16 ^ (65 - k) := Nat.mul_le_mul_left _ (Nat.pow_pos (by omega))
      omega
    have hand := and15 m hm64
    clear hm64
    have hcell : wr.cell? ⟨w.heap.size, k - 1, none⟩ = some (.int .u8 0) := by
      have := hexRow_get k acc (by omega)
      simp [World.cell?, hblk.out, this]
    have hfro : wr.frozen? ⟨w.heap.size, k - 1, none⟩ = false := by simp [World.frozen?, hblk.out]
    have hkk : 1 ≤ (k : Int) ∧ (k : Int) - 1 < 65 := by omega
    by_cases hm : 16 ≤ m
    · have hm2 : 0 ≤ (m : Int) % 16 ∧ (m : Int) % 16 < 36 := by omega
      go_wp2
      go_roundw
      case rel =>
        have hs := hex_step u m k hu hm hk HM.out
        have hd := digB_get (m % 16) (by show m % 16 < 36; omega) (by omega)
        refine ⟨m / 16, k - 1, digB[m % 16]'(by show m % 16 < 36; omega) :: acc, by simp, by simp; omega, by omega, by omega, Lib.hid (by have := hl.out; simp; omega), Lib.hid ?_, Lib.hid hs.2, Lib.hid ?_, ?_⟩
        · rw [HE.out, hexL_step m hm, hd]; simp
        · rw [← hexRow_set k acc _ (by omega)]
          exact heap_put hblk.out _
        · exact hb.setCell (by simp) _
      case measure => simp [intOf]; omega
    · have hm2 : 0 ≤ (m : Int) ∧ (m : Int) < 36 := by omega
      have hal : Tryd.prog.arrayLen 209 = 65 := by kernel_rfl
      have hm16 : m < 16 := by omega
      have hsl : ∀ W : World, (Instr.sliceAt 209 (.pointer (some ⟨w.heap.size, 0, none⟩)) (some (.int .i64 ((k : Int) - 1))) none none).run Tryd.prog W = .ok (.slice (some ⟨w.heap.size, k - 1, none⟩) (66 - k) (66 - k)) W := fun W => by
        have hu : Tryd.prog.underlying 209 = some (.array (Tryd.prog.arrayLen 209) (Tryd.prog.elem 209)) := by kernel_rfl
        rw [run_sliceAt_array_l (P := Tryd.prog) W 209 ⟨w.heap.size, 0, none⟩ hu .i64 ((k : Int) - 1) (by omega) (by rw [hal]; omega)]
        have hsz : (sizeOf (Tryd.prog.elem 209)).run Tryd.prog W = .ok 1 W := by kernel_rfl
        rw [hsz]
        have e1 : ((k : Int) - 1).toNat = k - 1 := by omega
        simp only [Result.andThen, slicedAt, hal, e1, Nat.mul_one]
        rw [if_neg (by omega)]
        have e2 : (65 : Int).toNat - (k - 1) = 66 - k := by omega
        simp [Addr.add, show k - 1 ≠ 0 by omega]
        omega
      have hd := digB_get m (by show m < 36; omega) hm16
      have hcv : (convert 48 9 (.slice (some ⟨w.heap.size, k - 1, none⟩) (66 - k) (66 - k))).run Tryd.prog (wr.setCell ⟨w.heap.size, k - 1, none⟩ (.int .u8 ((digB[m]'(by show m < 36; omega)).toNat : Int))) = .ok (.string ⟨(hexL u).toArray⟩) (wr.setCell ⟨w.heap.size, k - 1, none⟩ (.int .u8 ((digB[m]'(by show m < 36; omega)).toNat : Int))) := by
        rw [HE.out, hexL_small m hm16, ← hd]
        refine hex_str _ w.heap.size k (_ :: acc) (by have := hl.out; simp; omega) ?_
        rw [← hexRow_set k acc _ (by omega)]
        exact heap_put hblk.out _
      clear hd
      go_wp2
      go_ret2
      exact ⟨rfl, hb.setCell (by simp) _⟩
end Go.Proofs.YtlfgkibfhhifmaaDoor

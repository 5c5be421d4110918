/- The journal's text: the reference's walk. -/
import Derived.Test.YtlfgkibfhhifmaaDoorJour
import Derived.Deep.RegionHeld3
namespace Go.Proofs.YtlfgkibfhhifmaaDoor
open Go.RowKit Go.Proofs.YtlfgkibfhhifmaaDoorW.PrintWords Go.Proofs.YtlfgkibfhhifmaaDoorW.PrintLast Go.Proofs.YtlfgkibfhhifmaaDoorW.PrintMore Go.Proofs.YtlfgkibfhhifmaaDoor.PDec
def jline (c : Nat) (s : List UInt8) : List UInt8 := Lib.itoa (c : Int) ++ (32 :: (s ++ [10]))
def chks : Nat → List ByteArray → Nat
  | n, [] => n
  | n, x :: r => chks (chk n x.data.toList) r
def jourL : Nat → List ByteArray → List UInt8
  | _, [] => []
  | n, x :: r => jline (chk n x.data.toList) x.data.toList ++ jourL (chk n x.data.toList) r
theorem chks_lt (n : Nat) (l : List ByteArray) (h : n < 65003) : chks n l < 65003 := by
  induction l generalizing n with
  | nil => exact h
  | cons x l ih => exact ih _ (chk_lt _ _ h)
theorem chks_snoc (n : Nat) (a : List ByteArray) (x : ByteArray) : chks n (a ++ [x]) = chk (chks n a) x.data.toList := by
  induction a generalizing n with
  | nil => rfl
  | cons y a ih => exact ih _
theorem jourL_snoc (n : Nat) (a : List ByteArray) (x : ByteArray) : jourL n (a ++ [x]) = jourL n a ++ jline (chk (chks n a) x.data.toList) x.data.toList := by
  induction a generalizing n with
  | nil => simp [jourL, chks]
  | cons y a ih => simp only [List.cons_append, jourL, chks, ih, List.append_assoc]
theorem itoa_len (n : Nat) (h : n < 65003) : 1 ≤ (Lib.itoa (n : Int)).length ∧ (Lib.itoa (n : Int)).length ≤ 5 := by
  have e2 : Lib.itoa (n : Int) = Lib.decDigits n := by unfold Lib.itoa; rw [if_neg (by omega), Int.toNat_natCast]
  rw [e2, Lib.decDigits_length]
  refine ⟨Lib.nDigits_pos n, ?_⟩
  by_cases h1 : n < 10
  · rw [Lib.nDigits_small h1]; omega
  · by_cases h2 : n < 100
    · rw [Lib.nDigits_unique 1 n (by omega) (by omega)]; omega
    · by_cases h3 : n < 1000
      · rw [Lib.nDigits_unique 2 n (by omega) (by omega)]; omega
      · by_cases h4 : n < 10000
        · rw [Lib.nDigits_unique 3 n (by omega) (by omega)]; omega
        · rw [Lib.nDigits_unique 4 n (by omega) (by omega)]; omega
theorem jline_len (c : Nat) (s : List UInt8) (h : c < 65003) : s.length + 3 ≤ (jline c s).length ∧ (jline c s).length ≤ s.length + 7 := by
  have := itoa_len c h
  unfold jline
  simp only [List.length_append, List.length_cons, List.length_nil]
  omega
theorem jourL_len (n : Nat) (a : List ByteArray) (h : n < 65003) (hs : ∀ x ∈ a, x.size ≤ 1048576) : (jourL n a).length ≤ a.length * 1048600 := by
  induction a generalizing n with
  | nil => simp [jourL]
  | cons x a ih =>
    have h1 := ih (chk n x.data.toList) (chk_lt _ _ h) fun y hy => hs y (List.mem_cons_of_mem _ hy)
    have h2 := (jline_len (chk n x.data.toList) x.data.toList (chk_lt _ _ h)).2
    have h3 := hs x List.mem_cons_self
    have h4 : x.data.toList.length = x.size := Array.length_toList
    simp only [jourL, List.length_append, List.length_cons]
    omega
theorem jcat (d : List UInt8) (s : ByteArray) : ((strB d ++ (⟨#[32]⟩ : ByteArray)) ++ s) ++ (⟨#[10]⟩ : ByteArray) = strB (d ++ (32 :: (s.data.toList ++ [10]))) := by
  have e0 := strB_self s
  generalize s.data.toList = l at e0
  subst e0
  have e1 : strB d ++ (⟨#[32]⟩ : ByteArray) = strB (d ++ [32]) := bytes_cat d [32]
  have e2 : strB (d ++ [32]) ++ strB l = strB (d ++ [32] ++ l) := bytes_cat _ _
  have e3 : strB (d ++ [32] ++ l) ++ (⟨#[10]⟩ : ByteArray) = strB (d ++ [32] ++ l ++ [10]) := bytes_cat _ _
  rw [e1, e2, e3]
  simp
theorem strB_cat (a b : List UInt8) : strB a ++ strB b = strB (a ++ b) := bytes_cat a b
set_option maxHeartbeats 2000000 in
set_option maxRecDepth 100000 in
theorem l08Journal_any (A : Option Addr) (c : Nat) (xs : List ByteArray) (w : World) (hr : Kd.C Kd.string w A xs.length xs) (hn : xs.length ≤ 1048576) (hs : ∀ x ∈ xs, x.size ≤ 1048576) :
    Calls Tryd.prog 43 #[.slice A xs.length c] w fun e w' => e = .returned (.string (strB (jourL 0 xs))) ∧ Below w.heap.size w w' := by
  have HR := Aside0.mk hr
  have HS := Aside0.mk hs
  clear hr hs
  go_enter Tryd.func43, Tryd.ntmps43
  go_wp2
  go_loopw [3, 4, 5] (fun v3 v4 v5 wr => ∃ k : Nat, v3 = .string (strB (jourL 0 (xs.take k))) ∧ v4 = .int .i64 ((chks 0 (xs.take k) : Nat) : Int) ∧ v5 = .int .i64 k ∧ k ≤ xs.length ∧ Below w.heap.size w wr) (fun _ _ v5 _ => xs.length - (intOf v5).toNat)
  case atStart => exact ⟨0, rfl, rfl, rfl, Nat.zero_le _, Below.refl _ _⟩
  case round =>
    obtain ⟨k, rfl, rfl, rfl, hk, hB⟩ := hrel
    by_cases hlt : k < xs.length
    · obtain ⟨ad, e, hx⟩ := Kd.at_string HR.out k (by omega) (by omega)
      cases e
      have hxw : wr.cell? (ad.add k) = some (.string xs[k]) := by
        have h1 := pw_cell_below hB hx
        rw [show (k : Int).toNat = k by omega] at h1
        rw [h1]
        simp [rdOf, List.getD_eq_getElem?_getD, List.getElem?_eq_getElem hlt]
      have hsz := HS.out xs[k] (List.getElem_mem hlt)
      have hc0 : chks 0 (xs.take k) < 65003 := chks_lt _ _ (by omega)
      have hol := jourL_len 0 (xs.take k) (by omega) fun x hx => HS.out x (List.mem_of_mem_take hx)
      have ht1 : xs.take (k + 1) = xs.take k ++ [xs[k]] := List.take_succ_eq_append_getElem hlt
      have E1 := Lib.hid (show jourL 0 (xs.take (k + 1)) = _ from ht1 ▸ jourL_snoc 0 (xs.take k) xs[k])
      have E2 := Lib.hid (show chks 0 (xs.take (k + 1)) = _ from ht1 ▸ chks_snoc 0 (xs.take k) xs[k])
      have hlk : (xs.take k).length = k := by simp; omega
      rw [hlk] at hol
      generalize jourL 0 (xs.take k) = out at hol E1 ⊢
      generalize chks 0 (xs.take k) = n at hc0 E1 E2 ⊢
      generalize xs[k] = x at hxw hsz E1 E2
      have hcl : chk n x.data.toList < 65003 := chk_lt _ _ hc0
      have CK := Aside0.mk (show ∀ W, Calls Tryd.prog 87 #[.int .i64 (n : Int), .string x] W fun e w' => e = .returned (.int .i64 ((chk n x.data.toList : Nat) : Int)) ∧ Drawn0 W w' from fun W =>
        spec_l01Check.calls _ _ x _ W (by have := spec_chk x.data.toList n 0 hc0 (by have : x.data.toList.length = x.size := Array.length_toList; omega); rw [strB_self] at this; exact this))
      generalize hd : chk n x.data.toList = c at hcl E1 E2 CK
      have hdl := itoa_len c hcl
      have hj := jcat (Lib.itoa (c : Int)) x
      have CD := Aside0.mk (show ∀ W, Calls Tryd.prog 88 #[.int .i64 (c : Int)] W fun e w' => e = .returned (.string (strB (Lib.itoa (c : Int)))) ∧ Below W.heap.size W w' from fun W =>
        spec_l01Dec.calls _ _ _ W (spec_dec c hcl))
      have hdsz : (strB (Lib.itoa (c : Int))).size ≤ 5 := by rw [strB_size]; exact hdl.2
      have HJ := Lib.hid (show ((strB (Lib.itoa (c : Int)) ++ (⟨#[32]⟩ : ByteArray)) ++ x) ++ (⟨#[10]⟩ : ByteArray) = strB (jline c x.data.toList) from hj)
      have hosz : (strB out).size ≤ 1099619893248 := by rw [strB_size]; omega
      clear hj hdl hol ht1 hlk hd hcl hc0 hx
      generalize strB (Lib.itoa (c : Int)) = d at HJ CD hdsz
      have z1 : d.size + 1 ≤ 9223372036854775807 := by omega
      have z2 : d.size + 1 + x.size ≤ 9223372036854775807 := by omega
      have z3 : d.size + 1 + x.size + 1 ≤ 9223372036854775807 := by omega
      have z4 : (strB out).size + (d.size + 1 + x.size + 1) ≤ 9223372036854775807 := by omega
      go_wp2_with (fail)
      (with_reducible refine (CK.out _).mono ?_)
      rintro e w' ⟨rfl, ⟨nd, rfl⟩⟩
      go_wp2
      have hBd : Below w.heap.size w (wr.drewN nd).drew := below_drew (pw_below_drewN hB nd)
      have hxd : (wr.drewN nd).drew.cell? (ad.add k) = some (.string x) := hxw
      clear CK hB HR HS
      go_region_with ((with_reducible refine (CD.out _).mono ?_); rintro e w1 ⟨rfl, hb1⟩; have hB1 := below_then hBd hBd.size hb1; have hx1 := (hb1.cell (World.block_lt_of_cell? _ _ hxd)).trans hxd; clear hb1)
      all_goals go_wp2
      all_goals go_roundw
      all_goals first
        | exact ⟨k + 1, by rw [E1.out, HJ.out, strB_cat], by rw [E2.out], by go_num, by omega, by assumption⟩
        | (simp [intOf]; omega)
    · obtain rfl : k = xs.length := by omega
      have e := Lib.hid (List.take_length (l := xs))
      go_wp2
      go_ret
      exact ⟨by first | rfl | (rw [e.out]; rfl), hB⟩
instance (l0 : List ByteArray) : Decidable (l0.length ≤ 1048576 ∧ ∀ x ∈ l0, x.size ≤ 1048576) := inferInstance
def spec_l08Journal.f (l0 : List ByteArray) : Option ByteArray := if l0.length ≤ 1048576 ∧ ∀ x ∈ l0, x.size ≤ 1048576 then some (strB (jourL 0 l0)) else none
theorem spec_l08Journal.calls (A0 : Option Addr) (c0 : Nat) (l0 : List ByteArray) (r : ByteArray) (w : World) (hr0 : Kd.C Kd.string w A0 l0.length l0) (_hc0 : l0.length ≤ c0) (h : spec_l08Journal.f l0 = some r) :
    Calls Tryd.prog 43 #[.slice A0 l0.length c0] w fun e w' => e = .returned (.string r) ∧ Below w.heap.size w w' := by
  unfold spec_l08Journal.f at h
  split at h
  case isFalse => cases h
  obtain rfl := Option.some.inj h
  exact l08Journal_any A0 c0 l0 w hr0 (by rename_i hc; exact hc.1) (by rename_i hc; exact hc.2)
end Go.Proofs.YtlfgkibfhhifmaaDoor

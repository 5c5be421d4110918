/- slices.ContainsFunc at the program's own predicates. -/
import Derived.Test.YtlfgkibfhhifmaaDoorNum
namespace Go.Proofs.YtlfgkibfhhifmaaDoor
open Go.RowKit Go.Proofs.YtlfgkibfhhifmaaDoorW.PrintWords Go.Proofs.YtlfgkibfhhifmaaDoorW.PrintLast Go.Proofs.YtlfgkibfhhifmaaDoorW.PrintMore
theorem any_take_succ {α : Type} (p : α → Bool) (d : α) (xs : List α) (k : Nat) (h : k < xs.length) : (xs.take (k + 1)).any p = ((xs.take k).any p || p (rdOf d xs k)) := by
  rw [List.take_succ_eq_append_getElem h, List.any_append]
  simp [rdOf, List.getD_eq_getElem?_getD, List.getElem?_eq_getElem h]
theorem any_of_hit {α : Type} (p : α → Bool) (d : α) (xs : List α) (k : Nat) (h : k < xs.length) (hp : p (rdOf d xs k) = true) : xs.any p = true := by
  rw [List.any_eq_true]
  refine ⟨xs[k], List.getElem_mem h, ?_⟩
  simpa [rdOf, List.getD_eq_getElem?_getD, List.getElem?_eq_getElem h] using hp
theorem ret_bool {a b : Bool} (h : a = b) : Ending.returned (.bool a) = .returned (.bool b) := by rw [h]
def noFin (x : Nat) : Bool := !fin32 x
/-! ### loop.example/g01403/impl.areFinite$1 -/
theorem noFin_calls (x : Nat) (W : World) : Calls Tryd.prog 130 #[.float .f32 x] W fun e w' => e = .returned (.bool (noFin x)) ∧ Drawn0 W w' := by
  go_enter Tryd.func130, Tryd.ntmps130
  go_wp2_with (go_at_call 131; refine (finite_any _ _ _ (.inr rfl)).mono ?_; rintro e w' ⟨rfl, ⟨nd, rfl⟩⟩)
  go_ret
  exact ⟨rfl, ⟨_, rfl⟩⟩
set_option maxRecDepth 100000 in
theorem noFin_index (A : Option Addr) (c : Nat) (zs : List Nat) (w : World) (hr : Kd.C (kdFl .f32) w A zs.length zs) :
    Calls Tryd.prog 164 #[.slice A zs.length c, .func (.func 130) #[] #[]] w fun e w' => ∃ i : Int, e = .returned (.int .i64 i) ∧ Hid (decide (0 ≤ i) = zs.any noFin) ∧ Drawn0 w w' := by
  have HR := Aside0.mk hr
  have hlen : zs.length ≤ 9223372036854775807 := hr.2.1
  clear hr
  go_enter Tryd.func164, Tryd.ntmps164
  go_wp2
  go_loopw [8] (fun v8 wr => ∃ k : Nat, v8 = .int .i64 k ∧ k ≤ zs.length ∧ Hid ((zs.take k).any noFin = false) ∧ Drawn0 w wr) (fun v8 _ => zs.length - (intOf v8).toNat)
  case atStart => exact ⟨0, rfl, Nat.zero_le _, Lib.hid (by simp), Drawn0.refl _⟩
  case round =>
    obtain ⟨k, rfl, hk, hn, ⟨m, rfl⟩⟩ := hrel
    by_cases hlt : k < zs.length
    · obtain ⟨ad, e, hx⟩ := at_fl HR.out k (by omega) (by omega)
      cases e
      have hk1 : (k : Int).toNat = k := by omega
      rw [hk1] at hx
      clear hk1
      cases hp : noFin (rdOf (0 : Nat) zs k) with
      | true =>
        have HP := Lib.hid hp
        clear hp
        go_wp2_with (go_at_call 130; refine (noFin_calls _ _).mono ?_; rintro e w' ⟨rfl, ⟨nd, rfl⟩⟩; rw [HP.out])
        go_ret
        exact ⟨k, rfl, Lib.hid (by rw [any_of_hit noFin (0 : Nat) zs k hlt HP.out]; simp), ⟨_, rfl⟩⟩
      | false =>
        have HP := Lib.hid hp
        clear hp
        go_wp2_with (go_at_call 130; refine (noFin_calls _ _).mono ?_; rintro e w' ⟨rfl, ⟨nd, rfl⟩⟩; rw [HP.out])
        go_roundw
        case rel => exact ⟨k + 1, by go_num, by omega, Lib.hid (by rw [any_take_succ noFin (0 : Nat) zs k hlt, hn.out, HP.out]; rfl), ⟨_, rfl⟩⟩
        case measure => simp [intOf]; omega
    · go_wp2
      go_ret
      exact ⟨-1, rfl, Lib.hid (by have h := hn.out; rw [List.take_of_length_le (by omega)] at h; rw [h]; rfl), ⟨m, rfl⟩⟩
theorem noFin_contains (A : Option Addr) (c : Nat) (zs : List Nat) (w : World) (hr : Kd.C (kdFl .f32) w A zs.length zs) :
    Calls Tryd.prog 129 #[.slice A zs.length c, .func (.func 130) #[] #[]] w fun e w' => e = .returned (.bool (zs.any noFin)) ∧ Drawn0 w w' := by
  have HR := Aside0.mk hr
  clear hr
  go_enter Tryd.func129, Tryd.ntmps129
  go_wp2_with (go_at_call 164; refine (noFin_index _ _ _ _ HR.out).mono ?_; rintro e w' ⟨i, rfl, hi, ⟨nd, rfl⟩⟩)
  go_ret
  exact ⟨ret_bool hi.out, ⟨nd, rfl⟩⟩
theorem impl_areFinite_any (A : Option Addr) (c : Nat) (zs : List Nat) (w : World) (hr : Kd.C (kdFl .f32) w A zs.length zs) :
    Calls Tryd.prog 98 #[.slice A zs.length c] w fun e w' => e = .returned (.bool (!zs.any noFin)) ∧ Drawn0 w w' := by
  have HR := Aside0.mk hr
  clear hr
  go_enter Tryd.func98, Tryd.ntmps98
  go_wp2_with (go_at_call 129; refine (noFin_contains _ _ _ _ HR.out).mono ?_; rintro e w' ⟨rfl, ⟨nd, rfl⟩⟩)
  go_ret
  exact ⟨rfl, ⟨nd, rfl⟩⟩
def impl_areFinite.f (l0 : List Nat) : Option Bool := some (!l0.any noFin)
theorem impl_areFinite.calls (A0 : Option Addr) (c0 : Nat) (l0 : List Nat) (r : Bool) (w : World) (hr0 : Kd.C (kdFl .f32) w A0 l0.length l0) (_hc0 : l0.length ≤ c0) (h : impl_areFinite.f l0 = some r) :
    Calls Tryd.prog 98 #[.slice A0 l0.length c0] w fun e w' => e = .returned (.bool r) ∧ Below w.heap.size w w' := by
  obtain rfl := Option.some.inj h
  exact (impl_areFinite_any A0 c0 l0 w hr0).mono fun e w' ⟨he, hd⟩ => ⟨he, hd.below⟩
end Go.Proofs.YtlfgkibfhhifmaaDoor

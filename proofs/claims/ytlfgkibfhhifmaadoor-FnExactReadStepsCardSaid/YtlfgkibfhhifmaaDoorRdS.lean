/- FnExactReadSteps: the plain laws. -/
import Derived.Test.YtlfgkibfhhifmaaDoorNrd
import Derived.Test.YtlfgkibfhhifmaaDoorMarkF
import Derived.Deep.RegionHeld3
import Derived.BigQuiet
namespace Go.Proofs.YtlfgkibfhhifmaaDoor
open Go.RowKit Go.Proofs.YtlfgkibfhhifmaaDoorW.PrintWords Go.Proofs.YtlfgkibfhhifmaaDoorW.PrintLast Go.Proofs.YtlfgkibfhhifmaaDoorW.PrintMore Go.Proofs.YtlfgkibfhhifmaaDoor.PNrd
namespace RdS
def up (xs : List Nat) (j : Nat) : Bool := (FloatKind.f32).format.order (xs.getD j 0) (xs.getD (j - 1) 0) == some .gt
def notUp (xs : List Nat) (j : Nat) : Bool := ((FloatKind.f32).format.order (xs.getD j 0) (xs.getD (j - 1) 0) == some .lt || (FloatKind.f32).format.order (xs.getD j 0) (xs.getD (j - 1) 0) == some .eq)
def upFrom (xs : List Nat) : Nat → Nat → Bool
  | 0, _ => true
  | n + 1, j => up xs j && upFrom xs n (j + 1)
def upAll (xs : List Nat) : Bool := upFrom xs (xs.length - 1) 1
def finAll (xs : List Nat) : Bool := !xs.any noFin
def stepsOk (es hs : List Nat) : Bool := decide (es.length < 12) && decide (hs.length = es.length + 1) && finAll es && finAll hs && upAll es
theorem order_fin (x y : Nat) (hx : fin32 x = true) (hy : fin32 y = true) : ∃ o, (FloatKind.f32).format.order x y = some o := by
  have r : ∀ b, fin32 b = true → ∃ s m p, Ieee.single.read b = .number s m p := by
    intro b hb
    have h' : b % 2147483648 < 2139095040 := by simpa [fin32] using hb
    unfold Ieee.Format.read
    simp only [show Ieee.single.signWeight = 2147483648 from rfl, show Ieee.single.binade = 8388608 from rfl, show Ieee.single.infRung = 2139095040 from rfl]
    by_cases h2 : b % 2147483648 < 8388608
    · rw [if_pos h2]; exact ⟨_, _, _, rfl⟩
    · rw [if_neg h2, if_pos h']; exact ⟨_, _, _, rfl⟩
  obtain ⟨s, m, p, e1⟩ := r x hx
  obtain ⟨t, n, q, e2⟩ := r y hy
  show ∃ o, (Ieee.single.read x).order (Ieee.single.read y) = some o
  rw [e1, e2]
  exact ⟨_, rfl⟩
theorem notUp_of_fin (xs : List Nat) (j : Nat) (hf : finAll xs = true) (hj : j < xs.length) (h1 : 1 ≤ j) : notUp xs j = !up xs j := by
  have hall : ∀ i, i < xs.length → fin32 (xs.getD i 0) = true := by
    intro i hi
    unfold finAll at hf
    rw [Bool.not_eq_true', List.any_eq_false] at hf
    have := hf xs[i] (List.getElem_mem hi)
    simpa [noFin, List.getD_eq_getElem?_getD, List.getElem?_eq_getElem hi] using this
  obtain ⟨o, e⟩ := order_fin _ _ (hall j hj) (hall (j - 1) (by omega))
  unfold notUp up
  rw [e]
  cases o <;> rfl
theorem impl_asc (xs : List Nat) (n j k : Nat) (hn : n + j = xs.length ∨ (n = 0 ∧ xs.length ≤ j)) (h1 : 1 ≤ j) (hl : xs.length < 4611686018427387904) (hj : j < 4611686018427387904) :
    impl_ascends.l0 (k + n + 1) xs (j : Int) = some (upFrom xs n j) := by
  induction n generalizing j k with
  | zero =>
    rw [impl_ascends.l0, if_neg (by omega)]
    rfl
  | succ n ih =>
    have hlt : j < xs.length := by omega
    have e1 : wrap64 ((j : Int) - 1) = ((j - 1 : Nat) : Int) := by unfold wrap64; omega
    have e2 : wrap64 ((j : Int) + 1) = ((j + 1 : Nat) : Int) := by unfold wrap64; omega
    rw [show k + (n + 1) + 1 = (k + n + 1) + 1 by omega]
    rw [impl_ascends.l0, if_pos (by omega), if_pos (by omega), e1, if_pos (by omega), if_pos (by omega), e2]
    have ea : rdOf (0 : Nat) xs (j : Int) = xs.getD j 0 := by simp [rdOf]
    have eb : rdOf (0 : Nat) xs ((j - 1 : Nat) : Int) = xs.getD (j - 1) 0 := by simp [rdOf]
    rw [ea, eb]
    have hu : up xs j = ((FloatKind.f32).format.order (xs.getD j 0) (xs.getD (j - 1) 0) == some .gt) := rfl
    rw [← hu, upFrom]
    cases up xs j with
    | false => rfl
    | true => rw [if_pos rfl, ih (j + 1) k (by omega) (by omega) (by omega)]; rfl
theorem impl_Valid (es hs : List Nat) (k : Nat) : impl_ValidSteps.f (k + 13) es hs = some (stepsOk es hs) := by
  unfold impl_ValidSteps.f impl_areFinite.f stepsOk finAll
  by_cases h1 : es.length < 12
  · rw [if_pos (by omega), show wrap64 ((es.length : Int) + 1) = ((es.length + 1 : Nat) : Int) by unfold wrap64; omega]
    by_cases h2 : hs.length = es.length + 1
    · rw [if_pos (by omega)]
      simp only [Option.bind_some, h1, h2, decide_true, Bool.true_and]
      generalize es.any noFin = p
      generalize hs.any noFin = q
      have ha : impl_ascends.f (k + 13) es = some (upAll es) := by
        unfold impl_ascends.f upAll
        have := impl_asc es (es.length - 1) 1 (k + 12 - (es.length - 1)) (by omega) (by omega) (by omega) (by omega)
        rw [show k + 12 - (es.length - 1) + (es.length - 1) + 1 = k + 13 by omega] at this
        exact this
      rw [ha]
      cases p <;> cases q <;> simp
    · rw [if_neg (by omega)]
      simp [h2]
  · rw [if_neg (by omega)]
    simp [h1]
theorem spec_fin (xs : List Nat) (ys : List Nat) (k : Nat) (hl : (xs ++ ys).length < 4611686018427387904) (hx : finAll xs = true) :
    spec_l02Finite.l0 (k + ys.length + 1) (xs ++ ys) (xs.length : Int) = some (finAll (xs ++ ys)) := by
  induction ys generalizing xs k with
  | nil => rw [spec_l02Finite.l0, if_neg (by simp)]; simp [hx]
  | cons y ys ih =>
    simp only [List.length_append, List.length_cons] at hl
    rw [show k + (y :: ys).length + 1 = (k + ys.length + 1) + 1 by simp; omega]
    rw [spec_l02Finite.l0, if_pos (by simp; omega), if_pos (by omega)]
    have e : rdOf (0 : Nat) (xs ++ y :: ys) (xs.length : Int) = y := by simp [rdOf]
    have e2 : wrap64 ((xs.length : Int) + 1) = ((xs ++ [y]).length : Int) := by
      unfold wrap64; simp only [List.length_append, List.length_singleton]; omega
    rw [e, e2]
    unfold spec_l01Finite.f
    simp only [Option.bind_some]
    cases hy : fin32 y with
    | false =>
      rw [if_neg (by decide)]
      simp [finAll, noFin, hy]
    | true =>
      rw [if_pos rfl]
      have := ih (xs ++ [y]) k (by simp; omega) (by simp [finAll, noFin, hy] at hx ⊢; exact hx)
      rw [List.append_assoc, List.singleton_append] at this
      exact this
theorem spec_finite (xs : List Nat) (k : Nat) (hl : xs.length < 4611686018427387904) : spec_l02Finite.f (k + xs.length + 1) xs = some (finAll xs) := by
  have := spec_fin [] xs k (by simpa using hl) rfl
  simpa [spec_l02Finite.f] using this
theorem upFrom_step (xs : List Nat) (n j : Nat) : upFrom xs (n + 1) j = (up xs j && upFrom xs n (j + 1)) := rfl
set_option maxHeartbeats 4000000 in
set_option maxRecDepth 100000 in
theorem l02Is_any (g : Nat) (A B : Option Addr) (c d : Nat) (es hs : List Nat) (w : World) (hb : w.heap[g]? = some (.cells #[.slice A es.length c, .slice B hs.length d] 44 (0, 0)))
    (hE : Kd.C (kdFl .f32) w A es.length es) (hH : Kd.C (kdFl .f32) w B hs.length hs) (hce : es.length ≤ c) (hch : hs.length ≤ d) (hle : es.length < 4611686018427387904) (hlh : hs.length < 4611686018427387904) :
    Calls Tryd.prog 58 #[.pointer (some ⟨g, 0, none⟩)] w fun e w' => e = .returned (.bool (stepsOk es hs)) ∧ Drawn0 w w' := by
  have c0 : w.cell? ⟨g, 0, none⟩ = some (.slice A es.length c) := by simp [World.cell?, hb]
  have c1 : w.cell? ⟨g, 1, none⟩ = some (.slice B hs.length d) := by simp [World.cell?, hb]
  have HE := Aside0.mk hE
  have HH := Aside0.mk hH
  have FE := Lib.hid (spec_finite es 0 hle)
  have FH := Lib.hid (spec_finite hs 0 hlh)
  have S0 := Lib.hid (show stepsOk es hs = (decide (es.length < 12) && decide (hs.length = es.length + 1) && finAll es && finAll hs && upAll es) from rfl)
  have NU := Aside0.mk (notUp_of_fin es)
  clear hE hH hb
  by_cases h1 : es.length < 12
  case neg =>
    go_enter Tryd.func58, Tryd.ntmps58
    go_wp2
    go_ret
    exact ⟨by rw [S0.out]; simp [h1], Drawn0.refl _⟩
  by_cases h2 : hs.length = es.length + 1
  case neg =>
    go_enter Tryd.func58, Tryd.ntmps58
    go_wp2
    go_ret
    exact ⟨by rw [S0.out]; simp [h2], Drawn0.refl _⟩
  have H2 := Lib.hid h2
  have h2' : (es.length : Int) + 1 = (hs.length : Int) := by omega
  clear h2
  cases hf1 : finAll es with
  | false =>
    have F1 := Lib.hid hf1
    clear hf1
    go_enter Tryd.func58, Tryd.ntmps58
    go_wp2_with (go_at_call 101; refine (spec_l02Finite.calls _ A c es false _ HE.out hce (by rw [FE.out, F1.out])).mono ?_; rintro e w' ⟨rfl, ⟨nd, rfl⟩⟩)
    go_ret
    exact ⟨by rw [S0.out, F1.out]; simp, ⟨_, rfl⟩⟩
  | true =>
    have F1 := Lib.hid hf1
    clear hf1
    cases hf2 : finAll hs with
    | false =>
      have F2 := Lib.hid hf2
      clear hf2
      go_enter Tryd.func58, Tryd.ntmps58
      go_wp2_with (fail)
      refine (spec_l02Finite.calls _ A c es true _ HE.out hce (by rw [FE.out, F1.out])).mono ?_
      rintro e w' ⟨rfl, ⟨nd, rfl⟩⟩
      go_wp2_with (fail)
      refine (spec_l02Finite.calls _ B d hs false _ (Kd.C_drewN HH.out _) hch (by rw [FH.out, F2.out])).mono ?_
      rintro e w' ⟨rfl, ⟨nd2, rfl⟩⟩
      go_wp2
      go_ret
      exact ⟨by rw [S0.out, F2.out]; simp, ⟨_, rfl⟩⟩
    | true =>
      have F2 := Lib.hid hf2
      clear hf2
      go_enter Tryd.func58, Tryd.ntmps58
      go_wp2_with (fail)
      refine (spec_l02Finite.calls _ A c es true _ HE.out hce (by rw [FE.out, F1.out])).mono ?_
      rintro e w' ⟨rfl, ⟨nd, rfl⟩⟩
      go_wp2_with (fail)
      refine (spec_l02Finite.calls _ B d hs true _ (Kd.C_drewN HH.out _) hch (by rw [FH.out, F2.out])).mono ?_
      rintro e w' ⟨rfl, ⟨nd2, rfl⟩⟩
      go_wp2
      have hS : Hid (stepsOk es hs = upAll es) := Lib.hid (by rw [S0.out, F1.out, F2.out]; simp [h1, H2.out])
      clear S0 FE FH F2 HH c1 h2'
      go_loopw [4] (fun v wr => ∃ k : Nat, v = .int .i64 k ∧ 1 ≤ k ∧ Hid (upAll es = upFrom es (es.length - k) k) ∧ Drawn0 w wr) (fun v _ => es.length - (intOf v).toNat)
      case atStart => exact ⟨1, rfl, Nat.le_refl _, Lib.hid rfl, ⟨_, rfl⟩⟩
      case round =>
        obtain ⟨k, rfl, hk, hu, ⟨m, rfl⟩⟩ := hrel
        by_cases hlt : k < es.length
        · obtain ⟨ad, e, hx⟩ := at_fl HE.out k (by omega) (by omega)
          cases e
          obtain ⟨ad2, e, hx2⟩ := at_fl HE.out ((k : Int) - 1) (by omega) (by omega)
          obtain rfl : ad = ad2 := Option.some.inj e
          clear e
          have hk1 : (k : Int).toNat = k := by omega
          have hk2 : ((k : Int) - 1).toNat = k - 1 := by omega
          have hx0 : w.cell? (ad.add k) = some (.float .f32 (es.getD k 0)) := by rw [hk1] at hx; simpa [rdOf] using hx
          have hx1 : w.cell? (ad.add (k - 1)) = some (.float .f32 (es.getD (k - 1) 0)) := by rw [hk2] at hx2; rw [hx2]; simp [rdOf, hk2]
          clear hx hx2 hk1 hk2
          have hb1 : (0 : Int) ≤ (k : Int) - 1 := by omega
          have hb2 : (k : Int) - 1 < es.length := by omega
          have hus : Hid (upFrom es (es.length - k) k = (up es k && upFrom es (es.length - (k + 1)) (k + 1))) := Lib.hid (by rw [show es.length - k = (es.length - (k + 1)) + 1 by omega]; rfl)
          have hnu := NU.out k F1.out hlt hk
          unfold notUp at hnu
          generalize es.getD k 0 = x at hx0 hnu
          generalize es.getD (k - 1) 0 = y at hx1 hnu
          cases hup : up es k with
          | false =>
            rw [hup] at hnu hus
            have hq : ((FloatKind.f32).format.order x y == some .lt || (FloatKind.f32).format.order x y == some .eq) = true := hnu
            clear hnu hup NU
            go_wp2
            go_quiet (fail)
            all_goals go_wp2
            go_ret
            exact ⟨by rw [hS.out, hu.out, hus.out]; rfl, ⟨m + nq, by rw [World.drewN_drewN]⟩⟩
          | true =>
            rw [hup] at hnu hus
            have hq : ((FloatKind.f32).format.order x y == some .lt || (FloatKind.f32).format.order x y == some .eq) = false := hnu
            clear hnu hup NU
            go_wp2
            go_quiet (fail)
            all_goals go_wp2
            go_roundw
            case rel => exact ⟨k + 1, by go_num, by omega, Lib.hid (by rw [hu.out, hus.out]; rfl), ⟨_, rfl⟩⟩
            case measure => simp [intOf]; omega
        · go_wp2
          go_ret
          exact ⟨by rw [hS.out, hu.out, show es.length - k = 0 by omega]; rfl, ⟨_, rfl⟩⟩
/-- The steps that a text tells. -/
def stepsP (es hs : List Nat) : List Nat × List Nat × Bool := if stepsOk es hs = true then (es, hs, true) else ([], [], false)
def stepsQ : Option (List Nat) → Option (List Nat) → List Nat × List Nat × Bool
  | some es, some hs => stepsP es hs
  | _, _ => ([], [], false)
def stepsR (l : List UInt8) : List Nat × List Nat × Bool := if hasB 59 l = true then stepsQ (rdNums (before 59 l)) (rdNums (after 59 l)) else ([], [], false)
theorem before_le (c : UInt8) (l : List UInt8) : (before c l).length ≤ l.length := by
  induction l with
  | nil => exact Nat.le_refl _
  | cons x l ih =>
    rw [before]
    split
    · simp
    · simp only [List.length_cons]; omega
theorem after_le (c : UInt8) (l : List UInt8) : (after c l).length ≤ l.length := by
  induction l with
  | nil => exact Nat.le_refl _
  | cons x l ih =>
    rw [after]
    split
    · simp only [List.length_cons]; omega
    · simp only [List.length_cons]; omega
theorem hasB_mem (c : UInt8) (l : List UInt8) (h : hasB c l = true) : c ∈ l := by
  induction l with
  | nil => simp [hasB] at h
  | cons x l ih =>
    by_cases hx : x = c
    · simp [hx]
    · rw [hasB, if_neg hx] at h
      exact List.mem_cons_of_mem _ (ih h)
theorem splitA_mem (m c : UInt8) (hne : c ≠ m) (l : List UInt8) : ∀ cur, c ∈ cur ∨ c ∈ l → ∃ p ∈ splitA m cur l, c ∈ p := by
  induction l with
  | nil =>
    intro cur h
    rcases h with h | h
    · exact ⟨cur, by simp [splitA], h⟩
    · simp at h
  | cons x l ih =>
    intro cur h
    rw [splitA]
    by_cases hx : x = m
    · rw [if_pos hx]
      rcases h with h | h
      · exact ⟨cur, by simp, h⟩
      · rcases List.mem_cons.1 h with h | h
        · exact absurd (h.trans hx) hne
        · obtain ⟨p, hp, hc⟩ := ih [] (.inr h)
          exact ⟨p, List.mem_cons_of_mem _ hp, hc⟩
    · rw [if_neg hx]
      refine ih _ ?_
      rcases h with h | h
      · exact .inl (by simp [h])
      · rcases List.mem_cons.1 h with h | h
        · exact .inl (by simp [h])
        · exact .inr h
theorem hexAll_mem (l : List UInt8) : ∀ (acc n : Nat), hexAll acc l = some n → ∀ c ∈ l, hexVal c ≠ none := by
  induction l with
  | nil => intro acc n _ c hc; simp at hc
  | cons x l ih =>
    intro acc n h c hc
    rw [hexAll] at h
    cases hx : hexVal x with
    | none => rw [hx] at h; cases h
    | some d =>
      rw [hx, Option.bind_some] at h
      rcases List.mem_cons.1 hc with rfl | hc
      · rw [hx]; simp
      · exact ih _ n h c hc
theorem rd8_mem (l : List UInt8) (n : Nat) (h : rd8 l = some n) (c : UInt8) (hc : c ∈ l) : hexVal c ≠ none := by
  unfold rd8 at h
  split at h
  case isFalse => cases h
  cases hx : hexAll 0 l with
  | none => rw [hx] at h; cases h
  | some m => exact hexAll_mem l 0 m hx c hc
theorem rdAll_mem (xs : List (List UInt8)) : ∀ (ys : List Nat), rdAll xs = some ys → ∀ p ∈ xs, ∃ n, rd8 p = some n := by
  induction xs with
  | nil => intro ys _ p hp; simp at hp
  | cons x xs ih =>
    intro ys h p hp
    rw [rdAll] at h
    cases hx : rd8 x with
    | none => rw [hx] at h; cases h
    | some n =>
      rw [hx, Option.bind_some] at h
      cases hr : rdAll xs with
      | none => rw [hr] at h; cases h
      | some zs =>
        rcases List.mem_cons.1 hp with rfl | hp
        · exact ⟨n, hx⟩
        · exact ih zs hr p hp
theorem rdNums_semi (l : List UInt8) (h : hasB 59 l = true) : rdNums l = none := by
  have hm := hasB_mem 59 l h
  cases hr : rdNums l with
  | none => rfl
  | some ys =>
    exfalso
    unfold rdNums at hr
    split at hr
    · rename_i e
      rw [e] at hm
      exact absurd hm (by decide)
    · split at hr
      · cases hr
      · obtain ⟨p, hp, hc⟩ := splitA_mem 44 59 (by decide) l [] (.inr hm)
        obtain ⟨n, hn⟩ := rdAll_mem _ ys hr p hp
        exact rd8_mem p n hn 59 hc (by decide)
theorem monoS {f : Nat → Option (List Nat × Bool)} (hm : ∀ k r, f k = some r → f (k + 1) = some r) {k : Nat} {r : List Nat × Bool} (h : f k = some r) (n : Nat) : f (k + n) = some r := by
  induction n with
  | zero => exact h
  | succ n ih => exact hm _ _ ih
theorem impl_steps (l : List UInt8) (hl : l.length ≤ 1048576) : ∃ k, impl_ReadSteps.f k (strB l) = some (stepsR l) := by
  obtain ⟨k1, h1⟩ := impl_ReadNumbers_all (before 59 l) (Nat.le_trans (before_le 59 l) hl)
  obtain ⟨k2, h2⟩ := impl_ReadNumbers_all (after 59 l) (Nat.le_trans (after_le 59 l) hl)
  have e1 := monoS (fun k r h => impl_ReadNumbers.mono _ k r h) h1 (k2 + 13)
  have e2 := monoS (fun k r h => impl_ReadNumbers.mono _ k r h) h2 (k1 + 13)
  refine ⟨k1 + (k2 + 13), ?_⟩
  rw [show k2 + (k1 + 13) = k1 + (k2 + 13) by omega] at e2
  have hcut : xCut.f (strB l) (⟨#[59]⟩ : ByteArray) = some (strB (before 59 l), strB (after 59 l), hasB 59 l) := by
    unfold xCut.f
    rw [strB_size, if_pos ⟨rfl, by omega⟩, dataL]
    rfl
  unfold impl_ReadSteps.f
  rw [hcut]
  simp only [Option.bind_some]
  rw [e1, Option.bind_some, e2, Option.bind_some]
  unfold stepsR
  cases hasB 59 l with
  | false => rfl
  | true =>
    rw [if_pos rfl, if_pos rfl]
    unfold nrdR
    cases rdNums (before 59 l) with
    | none => rfl
    | some es =>
      cases rdNums (after 59 l) with
      | none => rfl
      | some hs =>
        simp only [nrdO, List.nil_append, if_true, stepsQ]
        unfold impl_checkedSteps.f
        have hv := impl_Valid es hs (k1 + k2)
        rw [show k1 + k2 + 13 = k1 + (k2 + 13) by omega] at hv
        rw [hv, Option.bind_some]
        unfold stepsP
        cases stepsOk es hs <;> rfl
end RdS
end Go.Proofs.YtlfgkibfhhifmaaDoor

/- FnExactReadSteps: the walks. -/
import Derived.Test.YtlfgkibfhhifmaaDoorRdS
namespace Go.Proofs.YtlfgkibfhhifmaaDoor
open Go.RowKit Go.Proofs.YtlfgkibfhhifmaaDoorW.PrintWords Go.Proofs.YtlfgkibfhhifmaaDoorW.PrintLast Go.Proofs.YtlfgkibfhhifmaaDoorW.PrintMore Go.Proofs.YtlfgkibfhhifmaaDoor.PNrd
namespace RdS
attribute [local go_sem] run_store_float
theorem R_nil (w : World) (base : Nat) (ok : Nat → Prop) : Kd.R (kdFl .f32) 32 w base ok (.slice none ([] : List Nat).length 0) [] := Kd.R_of_own (World.ownsRow_nil w base 32 1) (fun k hk => by cases hk)
theorem R_putfar {e base : Nat} {ok : Nat → Prop} {v : Value} {xs : List Nat} {W : World} (h : Kd.R (kdFl .f32) e W base ok v xs) (g j : Nat) (u : Value) (hg : g < base) : Kd.R (kdFl .f32) e (W.setCell ⟨g, j, none⟩ u) base ok v xs :=
  Kd.R_mono (Kd.R_move (Kd.R_bound h) (fun k hk => Below.heap_setCell W ⟨g, j, none⟩ u k (by have := hk.2.1; show k ≠ g; omega))) (fun _ hk => hk.1)
/-- What a function that gives steps hands back. -/
def GivesSteps (w : World) (es hs : List Nat) (v : Bool) (e : Ending) (w' : World) : Prop := ∃ (A B : Option Addr) (c d : Nat), e = .returned (.tuple #[.agg #[.slice A es.length c, .slice B hs.length d], .bool v]) ∧ Kd.R (kdFl .f32) 32 w' w.heap.size (fun _ => True) (.slice A es.length c) es ∧ Kd.R (kdFl .f32) 32 w' w.heap.size (fun _ => True) (.slice B hs.length d) hs ∧ Below w.heap.size w w'
theorem gives_nil {w w' : World} {e : Ending} (he : e = .returned (.tuple #[.agg #[.slice none 0 0, .slice none 0 0], .bool false])) (hb : Below w.heap.size w w') : GivesSteps w [] [] false e w' :=
  ⟨none, none, 0, 0, he, R_nil w' _ _, R_nil w' _ _, hb⟩
set_option maxHeartbeats 4000000 in
set_option maxRecDepth 100000 in
theorem l02Give_any (A B : Option Addr) (c d : Nat) (es hs : List Nat) (w : World) (hE : Kd.C (kdFl .f32) w A es.length es) (hH : Kd.C (kdFl .f32) w B hs.length hs) (hce : es.length ≤ c) (hch : hs.length ≤ d) (hle : es.length < 4611686018427387904) (hlh : hs.length < 4611686018427387904) (v : Bool) (hv : stepsOk es hs = v) :
    Calls Tryd.prog 124 #[.agg #[.slice A es.length c, .slice B hs.length d]] w fun e w' => e = .returned (.tuple #[.agg (if v = true then #[.slice A es.length c, .slice B hs.length d] else #[.slice none 0 0, .slice none 0 0]), .bool v]) ∧ Below w.heap.size w w' := by
  have bk0 : ((w.alloc (.cells #[.slice A es.length c, .slice B hs.length d] 44)).alloc (.cells #[.slice none 0 0, .slice none 0 0] 44)).heap[w.heap.size]? = some (.cells #[.slice A es.length c, .slice B hs.length d] 44 (0, 0)) := blk_alloc (heap_alloc_new w (.cells #[.slice A es.length c, .slice B hs.length d] 44)) (.cells #[.slice none 0 0, .slice none 0 0] 44)
  have bk1 : ((w.alloc (.cells #[.slice A es.length c, .slice B hs.length d] 44)).alloc (.cells #[.slice none 0 0, .slice none 0 0] 44)).heap[w.heap.size + 1]? = some (.cells #[.slice none 0 0, .slice none 0 0] 44 (0, 0)) := by
    have := heap_alloc_new (w.alloc (.cells #[.slice A es.length c, .slice B hs.length d] 44)) (.cells #[.slice none 0 0, .slice none 0 0] 44)
    simpa using this
  have C2 := Aside0.mk (show Calls Tryd.prog 58 #[.pointer (some ⟨w.heap.size, 0, none⟩)] ((w.alloc (.cells #[.slice A es.length c, .slice B hs.length d] 44)).alloc (.cells #[.slice none 0 0, .slice none 0 0] 44)) fun e w' => e = .returned (.bool (stepsOk es hs)) ∧ w'.heap[w.heap.size]? = some (.cells #[.slice A es.length c, .slice B hs.length d] 44 (0, 0)) ∧ w'.heap[w.heap.size + 1]? = some (.cells #[.slice none 0 0, .slice none 0 0] 44 (0, 0)) ∧ Below w.heap.size w w' from
    (l02Is_any w.heap.size A B c d es hs _ bk0 (Kd.C_alloc (Kd.C_alloc hE _) _) (Kd.C_alloc (Kd.C_alloc hH _) _) hce hch hle hlh).mono fun e w' ⟨he, ⟨n, hn⟩⟩ => ⟨he, by rw [hn]; exact bk0, by rw [hn]; exact bk1, by rw [hn]; exact pw_below_drewN (below_alloc (below_alloc (Below.refl _ _) _) _) n⟩)
  clear hE hH hle hlh bk0 bk1
  rw [hv] at C2
  clear hv
  go_enter Tryd.func124, Tryd.ntmps124
  go_wp2_with (fail)
  (with_reducible refine (C2.out).mono ?_)
  rintro e w1 ⟨rfl, bk0, bk1, hb⟩
  cases v with
  | false =>
    have ac0 : w1.cell? ⟨w.heap.size, 0, none⟩ = some (.slice A es.length c) := (blk_cell bk0 0).trans rfl
    have af0 := blk_frozen bk0 0
    have ac1 : w1.cell? ⟨w.heap.size, 1, none⟩ = some (.slice B hs.length d) := (blk_cell bk0 1).trans rfl
    have af1 := blk_frozen bk0 1
    have bc0 : w1.cell? ⟨w.heap.size + 1, 0, none⟩ = some (.slice none 0 0) := (blk_cell bk1 0).trans rfl
    have bf0 := blk_frozen bk1 0
    have bc1 : w1.cell? ⟨w.heap.size + 1, 1, none⟩ = some (.slice none 0 0) := (blk_cell bk1 1).trans rfl
    have bf1 := blk_frozen bk1 1
    have hne : ¬ w.heap.size = w.heap.size + 1 := by omega
    have hne2 : ¬ w.heap.size + 1 = w.heap.size := by omega
    have BK1 := Aside0.mk bk1
    clear bk0 bk1 C2
    go_wp2
    refine bodyPost_ret (results_ct rfl _ _ (w.heap.size + 1) 44 #[.slice none 0 0, .slice none 0 0] (0, 0) _ rfl (by (with_reducible repeat (first | refine blk_drewN ?_ _ | refine blk_drew ?_ | refine blk_alloc ?_ _)); refine blk_put (cs := #[.slice none 0 0, .slice none 0 0]) ?_ 1 _ rfl; (with_reducible repeat (first | refine blk_drewN ?_ _ | refine blk_drew ?_ | refine blk_alloc ?_ _)); refine blk_put (cs := #[.slice none 0 0, .slice none 0 0]) ?_ 0 _ rfl; (with_reducible repeat (first | refine blk_drewN ?_ _ | refine blk_drew ?_ | refine blk_alloc ?_ _)); exact BK1.out) Tryd.underlying44 rfl (by kernel_rfl)) rfl ?_
    exact ⟨rfl, by repeat (first | exact hb | refine below_set ?_ (by omega) | apply below_alloc | apply pw_below_drewN | apply below_drew1)⟩
  | true =>
    have ac0 : w1.cell? ⟨w.heap.size, 0, none⟩ = some (.slice A es.length c) := (blk_cell bk0 0).trans rfl
    have af0 := blk_frozen bk0 0
    have ac1 : w1.cell? ⟨w.heap.size, 1, none⟩ = some (.slice B hs.length d) := (blk_cell bk0 1).trans rfl
    have af1 := blk_frozen bk0 1
    have bc0 : w1.cell? ⟨w.heap.size + 1, 0, none⟩ = some (.slice none 0 0) := (blk_cell bk1 0).trans rfl
    have bf0 := blk_frozen bk1 0
    have bc1 : w1.cell? ⟨w.heap.size + 1, 1, none⟩ = some (.slice none 0 0) := (blk_cell bk1 1).trans rfl
    have bf1 := blk_frozen bk1 1
    have hne : ¬ w.heap.size = w.heap.size + 1 := by omega
    have hne2 : ¬ w.heap.size + 1 = w.heap.size := by omega
    have BK1 := Aside0.mk bk1
    clear bk0 bk1 C2
    go_wp2
    refine bodyPost_ret (results_ct rfl _ _ (w.heap.size + 1) 44 #[.slice A es.length c, .slice B hs.length d] (0, 0) _ rfl (by (with_reducible repeat (first | refine blk_drewN ?_ _ | refine blk_drew ?_ | refine blk_alloc ?_ _)); refine blk_put (cs := #[.slice A es.length c, .slice none 0 0]) ?_ 1 _ rfl; (with_reducible repeat (first | refine blk_drewN ?_ _ | refine blk_drew ?_ | refine blk_alloc ?_ _)); refine blk_put (cs := #[.slice none 0 0, .slice none 0 0]) ?_ 0 _ rfl; (with_reducible repeat (first | refine blk_drewN ?_ _ | refine blk_drew ?_ | refine blk_alloc ?_ _)); exact BK1.out) Tryd.underlying44 rfl (by kernel_rfl)) rfl ?_
    exact ⟨rfl, by repeat (first | exact hb | refine below_set ?_ (by omega) | apply below_alloc | apply pw_below_drewN | apply below_drew1)⟩
theorem markedF_R {e base c n s : Nat} {ok : Nat → Prop} {W : World} {A : Option Addr} {xs : List Nat} (h : Kd.R (kdFl .f32) e W base ok (.slice A n c) (markedF s xs xs.length)) : Kd.C (kdFl .f32) W A xs.length (markedF s xs xs.length) ∧ n = xs.length := by
  have em := markedF_len s xs xs.length (Nat.le_refl _)
  obtain ⟨h1, _, h3⟩ := Kd.R_reads' h
  rw [em] at h1 h3
  exact ⟨h3, h1⟩
set_option maxHeartbeats 4000000 in
set_option maxRecDepth 100000 in
theorem markSteps_any (A B : Option Addr) (c d : Nat) (es hs : List Nat) (s base : Nat) (w : World) (hE : Kd.R (kdFl .f32) 32 w base (fun k => some k ≠ (Value.slice B hs.length d).ownBlock) (.slice A es.length c) es) (hH : Kd.R (kdFl .f32) 32 w base (fun k => some k ≠ (Value.slice A es.length c).ownBlock) (.slice B hs.length d) hs) (hl : s + es.length + hs.length < 2000) (hbase : base ≤ w.heap.size) :
    Calls Tryd.prog 41 #[.agg #[.slice A es.length c, .slice B hs.length d], .int .i64 (s : Int)] w fun e w' => e = .returned (.int .i64 ((s + es.length + hs.length : Nat) : Int)) ∧ Kd.C (kdFl .f32) w' A es.length (markedF s es es.length) ∧ Kd.C (kdFl .f32) w' B hs.length (markedF (s + es.length) hs hs.length) ∧ Below base w w' ∧ ∀ k, k < w.heap.size → some k ≠ (Value.slice A es.length c).ownBlock → some k ≠ (Value.slice B hs.length d).ownBlock → w'.heap[k]? = w.heap[k]? := by
  have HE := Aside0.mk (Kd.R_alloc hE (.cells #[.slice A es.length c, .slice B hs.length d] 44))
  have HH := Aside0.mk (Kd.R_alloc hH (.cells #[.slice A es.length c, .slice B hs.length d] 44))
  have BK := Aside0.mk (heap_alloc_new w (.cells #[.slice A es.length c, .slice B hs.length d] 44))
  have HB := Aside0.mk (Below.alloc (Below.refl base w) hbase (.cells #[.slice A es.length c, .slice B hs.length d] 44))
  have hsz : base ≤ (w.alloc (.cells #[.slice A es.length c, .slice B hs.length d] 44)).heap.size := Nat.le_trans hbase HB.out.size
  clear hE hH
  go_enter Tryd.func41, Tryd.ntmps41
  go_wp2_with (fail)
  refine (markF_any A c es s base _ _ HE.out (by omega) hsz).mono ?_
  rintro e w1 ⟨rfl, hR1, hB1, hF1⟩
  have hR1 := Aside0.mk hR1
  have HH1 := Aside0.mk (Kd.R_step HH.out (fun k ok hk => hF1 k hk ok))
  have BK1 := Aside0.mk ((hF1 _ (blk_lt BK.out) (Kd.R_ne HE.out BK.out (by decide))).trans BK.out)
  have hs1 : base ≤ w1.heap.size := Nat.le_trans hsz hB1.size
  have HB1 := Aside0.mk (HB.out.trans hB1)
  have HF1 := Aside0.mk hF1
  have hsz1 : (w.alloc (.cells #[.slice A es.length c, .slice B hs.length d] 44)).heap.size ≤ w1.heap.size := hB1.size
  have hsz0 : w.heap.size < (w.alloc (.cells #[.slice A es.length c, .slice B hs.length d] 44)).heap.size := by simp
  have c0 : w1.cell? ⟨w.heap.size, 0, none⟩ = some (.slice A es.length c) := (blk_cell BK1.out 0).trans rfl
  have c1 : w1.cell? ⟨w.heap.size, 1, none⟩ = some (.slice B hs.length d) := (blk_cell BK1.out 1).trans rfl
  clear HE HH BK HB hB1 hF1 hsz
  go_wp2_with (fail)
  refine (markF_any B d hs (s + es.length) base _ _ HH1.out (by omega) hs1).mono ?_
  rintro e w2 ⟨rfl, hR2, hB2, hF2⟩
  have k1 := (markedF_R (Kd.R_step (hR1).out (fun k ok hk => hF2 k hk ok))).1
  have k2 := (markedF_R hR2).1
  have hBB := HB1.out.trans hB2
  have hFF : ∀ k, k < w.heap.size → some k ≠ (Value.slice A es.length c).ownBlock → some k ≠ (Value.slice B hs.length d).ownBlock → w2.heap[k]? = w.heap[k]? := fun k hk h1 h2 => ((hF2 k (by omega) h2).trans (HF1.out k (by omega) h1)).trans (Below.heap_alloc w _ k hk)
  clear HB1 hB2 hR2 hF2 hR1 HH1 c0 c1 BK1 HF1 hsz1 hsz0
  go_wp2
  go_ret
  exact ⟨rfl, k1, k2, hBB, hFF⟩
set_option maxHeartbeats 4000000 in
set_option maxRecDepth 100000 in
theorem heldSteps_any (A B : Option Addr) (c d : Nat) (es hs : List Nat) (s : Nat) (w : World) (hE : Kd.C (kdFl .f32) w A es.length (markedF s es es.length)) (hH : Kd.C (kdFl .f32) w B hs.length (markedF (s + es.length) hs hs.length)) (hl : s + es.length + hs.length < 2000) :
    Calls Tryd.prog 42 #[.agg #[.slice A es.length c, .slice B hs.length d], .int .i64 (s : Int)] w fun e w' => e = .returned (.int .i64 ((s + es.length + hs.length : Nat) : Int)) ∧ Below w.heap.size w w' := by
  have HE := Aside0.mk (Kd.C_alloc hE (.cells #[.slice A es.length c, .slice B hs.length d] 44))
  have HH := Aside0.mk (Kd.C_alloc hH (.cells #[.slice A es.length c, .slice B hs.length d] 44))
  have HB := Aside0.mk (below_alloc (Below.refl w.heap.size w) (.cells #[.slice A es.length c, .slice B hs.length d] 44))
  clear hE hH
  go_enter Tryd.func42, Tryd.ntmps42
  go_wp2_with (fail)
  refine (heldF_any A c es _ s _ HE.out (markedF_len _ _ _ (Nat.le_refl _)) (fun i hi => markedF_get s es i hi) (by omega)).mono ?_
  rintro e w1 ⟨rfl, ⟨n1, rfl⟩⟩
  go_wp2_with (fail)
  refine (heldF_any B d hs _ (s + es.length) _ (Kd.C_drewN HH.out n1) (markedF_len _ _ _ (Nat.le_refl _)) (fun i hi => markedF_get (s + es.length) hs i hi) (by omega)).mono ?_
  rintro e w1 ⟨rfl, ⟨n2, rfl⟩⟩
  go_wp2
  go_ret
  exact ⟨rfl, pw_below_drewN HB.out _⟩
set_option maxHeartbeats 4000000 in
set_option maxRecDepth 100000 in
theorem l08ReadSteps_no (l : List UInt8) (w : World) (ps : List ByteArray) (h : spec_l01Cut.f (strB l) 59 = some ps) (hne : ps.length ≠ 2) :
    Calls Tryd.prog 83 #[.string (strB l)] w (GivesSteps w [] [] false) := by
  have CC := Aside0.mk (show ∀ W, Calls Tryd.prog 123 #[.string (strB l), .int .u8 59] W fun e w' => ∃ v0_ : Value, e = .returned v0_ ∧ Kd.R Kd.string 9 w' W.heap.size (fun _ => True) v0_ ps ∧ Below W.heap.size W w' from fun W => spec_l01Cut.calls _ 59 ps W h)
  clear h
  generalize strB l = t at CC ⊢
  go_enter Tryd.func83, Tryd.ntmps83
  go_wp2_with (fail)
  (with_reducible refine (CC.out _).mono ?_)
  rintro e w1 ⟨v, rfl, hr, hb1⟩
  obtain ⟨A, c, rfl, hc, hC⟩ := Kd.R_reads hr
  have hB1 := below_then (below_alloc (Below.refl w.heap.size w) _) (by simp) hb1
  have BK := Aside0.mk (blk_below (heap_alloc_new w _) hb1)
  clear hr hC hb1 CC
  have ac0 : w1.cell? ⟨w.heap.size, 0, none⟩ = some (.slice none 0 0) := (blk_cell BK.out 0).trans rfl
  have af0 := blk_frozen BK.out 0
  have ac1 : w1.cell? ⟨w.heap.size, 1, none⟩ = some (.slice none 0 0) := (blk_cell BK.out 1).trans rfl
  have af1 := blk_frozen BK.out 1
  have hn : ¬ (ps.length : Int) = 2 := by omega
  go_wp2
  refine bodyPost_ret (results_ct rfl _ _ (w.heap.size) 44 #[.slice none 0 0, .slice none 0 0] (0, 0) _ rfl (by (with_reducible repeat (first | refine blk_drewN ?_ _ | refine blk_drew ?_ | refine blk_alloc ?_ _)); refine blk_put (cs := #[.slice none 0 0, .slice none 0 0]) ?_ 1 _ rfl; (with_reducible repeat (first | refine blk_drewN ?_ _ | refine blk_drew ?_ | refine blk_alloc ?_ _)); refine blk_put (cs := #[.slice none 0 0, .slice none 0 0]) ?_ 0 _ rfl; (with_reducible repeat (first | refine blk_drewN ?_ _ | refine blk_drew ?_ | refine blk_alloc ?_ _)); exact BK.out) Tryd.underlying44 rfl (by kernel_rfl)) rfl ?_
  exact gives_nil rfl (by repeat (first | exact hB1 | refine below_set ?_ (by omega) | apply below_alloc | apply pw_below_drewN | apply below_drew1))
set_option maxHeartbeats 4000000 in
set_option maxRecDepth 100000 in
theorem l08ReadSteps_two (l : List UInt8) (w : World) (p q : ByteArray) (ps : List ByteArray) (hps : ps = [p, q]) (h : spec_l01Cut.f (strB l) 59 = some ps) (es hs : List Nat) (b1 b2 : Bool) (k1 k2 : Nat) (h1 : spec_l01NRead.f k1 p = some (es, b1)) (h2 : spec_l01NRead.f k2 q = some (hs, b2)) (hle : es.length ≤ 256) (hlh : hs.length ≤ 256)
    (r1 r2 : List Nat) (v : Bool) (hr : (if b1 = true ∧ b2 = true then stepsP es hs else ([], [], false)) = (r1, r2, v)) :
    Calls Tryd.prog 83 #[.string (strB l)] w (GivesSteps w r1 r2 v) := by
  have CC := Aside0.mk (show ∀ W, Calls Tryd.prog 123 #[.string (strB l), .int .u8 59] W fun e w' => ∃ v0_ : Value, e = .returned v0_ ∧ Kd.R Kd.string 9 w' W.heap.size (fun _ => True) v0_ ps ∧ Below W.heap.size W w' from fun W => spec_l01Cut.calls _ 59 ps W h)
  clear h
  have C1 := Aside0.mk (show ∀ W, Calls Tryd.prog 120 #[.string p] W fun e w' => ∃ v0_ : Value, e = .returned (.tuple #[v0_, .bool b1]) ∧ Kd.R (kdFl .f32) 32 w' W.heap.size (fun _ => True) v0_ es ∧ Below W.heap.size W w' from fun W => spec_l01NRead.calls k1 _ es b1 W h1)
  have C2 := Aside0.mk (show ∀ W, Calls Tryd.prog 120 #[.string q] W fun e w' => ∃ v0_ : Value, e = .returned (.tuple #[v0_, .bool b2]) ∧ Kd.R (kdFl .f32) 32 w' W.heap.size (fun _ => True) v0_ hs ∧ Below W.heap.size W w' from fun W => spec_l01NRead.calls k2 _ hs b2 W h2)
  have HR := Lib.hid hr
  clear h1 h2 hr
  generalize strB l = t at CC ⊢
  go_enter Tryd.func83, Tryd.ntmps83
  go_wp2_with (fail)
  (with_reducible refine (CC.out _).mono ?_)
  rintro e w1 ⟨v0, rfl, hr, hb1⟩
  subst hps
  obtain ⟨A0, c0, rfl, hc0, hC0⟩ := Kd.R_reads hr
  obtain ⟨Q, rfl⟩ : ∃ g, A0 = some ⟨g, 0, none⟩ := by
    rcases (Kd.own_of_R hr).2 with ⟨h2, h3⟩ | ⟨g2, cap2, cur, hv, _⟩
    · simp at h3
    · cases hv; exact ⟨g2, rfl⟩
  have x0 : w1.cell? ⟨Q, 0, none⟩ = some (.string p) := (Kd.R_cell ByteArray.empty hr 0 (by omega) (by simp)).1
  have x1 : w1.cell? ⟨Q, 1, none⟩ = some (.string q) := (Kd.R_cell ByteArray.empty hr 1 (by omega) (by simp)).1
  have hB1 := below_then (below_alloc (Below.refl w.heap.size w) _) (by simp) hb1
  have BK := Aside0.mk (blk_below (heap_alloc_new w _) hb1)
  have hlt := blk_lt BK.out
  have hc2 : (2 : Int) ≤ c0 := by have : [p, q].length ≤ c0 := hc0; simp at this; omega
  have X1 := Lib.hid x1
  clear hr hC0 hb1 CC hc0 x1
  go_wp2_with (fail)
  (with_reducible refine (C1.out _).mono ?_)
  rintro e w2 ⟨v1, rfl, hr1, hb2⟩
  obtain ⟨A, c, rfl, hc, hC⟩ := Kd.R_reads hr1
  have x1 : w2.cell? ⟨Q, 1, none⟩ = some (.string q) := (hb2.cell (World.block_lt_of_cell? w1 _ X1.out)).trans X1.out
  have HR1 := Aside0.mk hr1
  have hB2 := below_then hB1 (Nat.le_of_lt hlt) hb2
  have BK2 := Aside0.mk (blk_below BK.out hb2)
  have hs12 := hb2.size
  clear hr1 hC hb2 C1 BK X1 x0 hB1
  go_wp2_with (fail)
  (with_reducible refine (C2.out _).mono ?_)
  rintro e w3 ⟨v2, rfl, hr2, hb3⟩
  obtain ⟨B, d, rfl, hd, hD⟩ := Kd.R_reads hr2
  have HR2 := Aside0.mk (Kd.R_lower hr2 hs12)
  have HR13 := Aside0.mk (Kd.R_below HR1.out hb3)
  have hB3 := below_then hB2 (by omega) hb3
  have BK3 := Aside0.mk (blk_below BK2.out hb3)
  have hs13 : w1.heap.size ≤ w3.heap.size := Nat.le_trans hs12 hb3.size
  clear hr2 hD hb3 C2 HR1 BK2 hB2 x1
  have ac0 : w3.cell? ⟨w.heap.size, 0, none⟩ = some (.slice none 0 0) := (blk_cell BK3.out 0).trans rfl
  have af0 := blk_frozen BK3.out 0
  have ac1 : w3.cell? ⟨w.heap.size, 1, none⟩ = some (.slice none 0 0) := (blk_cell BK3.out 1).trans rfl
  have af1 := blk_frozen BK3.out 1
  by_cases hb : b1 = true ∧ b2 = true
  · obtain ⟨rfl, rfl⟩ := hb
    have hst : stepsP es hs = (r1, r2, v) := by rw [← HR.out, if_pos ⟨rfl, rfl⟩]
    have CG := Aside0.mk (l02Give_any A B c d es hs w3 (Kd.R_reads' HR13.out).2.2 (Kd.R_reads' HR2.out).2.2 hc hd (by omega) (by omega) (stepsOk es hs) rfl)
    clear HR
    have HST := Lib.hid hst
    clear hst
    go_wp2_with (fail)
    (with_reducible refine (CG.out).mono ?_)
    rintro e w4 ⟨rfl, hb4⟩
    have R1 := Aside0.mk (Kd.R_below HR13.out hb4)
    have R2 := Aside0.mk (Kd.R_below HR2.out hb4)
    have hB4 := below_then hB3 (by omega) hb4
    have BK4 := Aside0.mk (blk_below BK3.out hb4)
    clear hb4 CG HR13 HR2 hB3 BK3 ac0 ac1 af0 af1
    have ac0 : w4.cell? ⟨w.heap.size, 0, none⟩ = some (.slice none 0 0) := (blk_cell BK4.out 0).trans rfl
    have af0 := blk_frozen BK4.out 0
    have ac1 : w4.cell? ⟨w.heap.size, 1, none⟩ = some (.slice none 0 0) := (blk_cell BK4.out 1).trans rfl
    have af1 := blk_frozen BK4.out 1
    cases hv : stepsOk es hs with
    | false =>
      have h0 : (([] : List Nat), ([] : List Nat), false) = (r1, r2, v) := by rw [← HST.out]; unfold stepsP; rw [hv]; rfl
      cases h0
      clear hv HST
      go_wp2
      refine bodyPost_ret (results_ct rfl _ _ (w.heap.size) 44 #[.slice none 0 0, .slice none 0 0] (0, 0) _ rfl (by (with_reducible repeat (first | refine blk_drewN ?_ _ | refine blk_drew ?_ | refine blk_alloc ?_ _)); refine blk_put (cs := #[.slice none 0 0, .slice none 0 0]) ?_ 1 _ rfl; (with_reducible repeat (first | refine blk_drewN ?_ _ | refine blk_drew ?_ | refine blk_alloc ?_ _)); refine blk_put (cs := #[.slice none 0 0, .slice none 0 0]) ?_ 0 _ rfl; (with_reducible repeat (first | refine blk_drewN ?_ _ | refine blk_drew ?_ | refine blk_alloc ?_ _)); exact BK4.out) Tryd.underlying44 rfl (by kernel_rfl)) rfl ?_
      exact gives_nil rfl (by repeat (first | exact hB4 | refine below_set ?_ (by omega) | apply below_alloc | apply pw_below_drewN | apply below_drew1))
    | true =>
      have h0 : (es, hs, true) = (r1, r2, v) := by rw [← HST.out]; unfold stepsP; rw [hv]; rfl
      cases h0
      clear hv HST
      go_wp2
      refine bodyPost_ret (results_ct rfl _ _ (w.heap.size) 44 #[.slice A es.length c, .slice B hs.length d] (0, 0) _ rfl (by (with_reducible repeat (first | refine blk_drewN ?_ _ | refine blk_drew ?_ | refine blk_alloc ?_ _)); refine blk_put (cs := #[.slice A es.length c, .slice none 0 0]) ?_ 1 _ rfl; (with_reducible repeat (first | refine blk_drewN ?_ _ | refine blk_drew ?_ | refine blk_alloc ?_ _)); refine blk_put (cs := #[.slice none 0 0, .slice none 0 0]) ?_ 0 _ rfl; (with_reducible repeat (first | refine blk_drewN ?_ _ | refine blk_drew ?_ | refine blk_alloc ?_ _)); exact BK4.out) Tryd.underlying44 rfl (by kernel_rfl)) rfl ?_
      exact ⟨A, B, c, d, rfl, Kd.R_lower (by repeat (first | exact R1.out | refine R_putfar ?_ _ _ _ (by omega))) (Nat.le_of_lt hlt), Kd.R_lower (by repeat (first | exact R2.out | refine R_putfar ?_ _ _ _ (by omega))) (Nat.le_of_lt hlt), by repeat (first | exact hB4 | refine below_set ?_ (by omega) | apply below_alloc | apply pw_below_drewN | apply below_drew1)⟩
  · have h0 : (([] : List Nat), ([] : List Nat), false) = (r1, r2, v) := by rw [← HR.out, if_neg hb]
    cases h0
    clear HR
    cases b1 with
    | false =>
      go_wp2
      refine bodyPost_ret (results_ct rfl _ _ (w.heap.size) 44 #[.slice none 0 0, .slice none 0 0] (0, 0) _ rfl (by (with_reducible repeat (first | refine blk_drewN ?_ _ | refine blk_drew ?_ | refine blk_alloc ?_ _)); refine blk_put (cs := #[.slice none 0 0, .slice none 0 0]) ?_ 1 _ rfl; (with_reducible repeat (first | refine blk_drewN ?_ _ | refine blk_drew ?_ | refine blk_alloc ?_ _)); refine blk_put (cs := #[.slice none 0 0, .slice none 0 0]) ?_ 0 _ rfl; (with_reducible repeat (first | refine blk_drewN ?_ _ | refine blk_drew ?_ | refine blk_alloc ?_ _)); exact BK3.out) Tryd.underlying44 rfl (by kernel_rfl)) rfl ?_
      exact gives_nil rfl (by repeat (first | exact hB3 | refine below_set ?_ (by omega) | apply below_alloc | apply pw_below_drewN | apply below_drew1))
    | true =>
      cases b2 with
      | false =>
        go_wp2
        refine bodyPost_ret (results_ct rfl _ _ (w.heap.size) 44 #[.slice none 0 0, .slice none 0 0] (0, 0) _ rfl (by (with_reducible repeat (first | refine blk_drewN ?_ _ | refine blk_drew ?_ | refine blk_alloc ?_ _)); refine blk_put (cs := #[.slice none 0 0, .slice none 0 0]) ?_ 1 _ rfl; (with_reducible repeat (first | refine blk_drewN ?_ _ | refine blk_drew ?_ | refine blk_alloc ?_ _)); refine blk_put (cs := #[.slice none 0 0, .slice none 0 0]) ?_ 0 _ rfl; (with_reducible repeat (first | refine blk_drewN ?_ _ | refine blk_drew ?_ | refine blk_alloc ?_ _)); exact BK3.out) Tryd.underlying44 rfl (by kernel_rfl)) rfl ?_
        exact gives_nil rfl (by repeat (first | exact hB3 | refine below_set ?_ (by omega) | apply below_alloc | apply pw_below_drewN | apply below_drew1))
      | true => exact absurd ⟨rfl, rfl⟩ hb
theorem cut_no2 (c : UInt8) (l : List UInt8) (h : hasB c l = false) : before c l = l := by
  induction l with
  | nil => rfl
  | cons x l ih =>
    by_cases hx : x = c
    · simp [hasB, hx] at h
    · have h2 : hasB c l = false := by simpa [hasB, hx] using h
      simp [before, hx, ih h2]
theorem rdNums_len {l : List UInt8} {ys : List Nat} (h : rdNums l = some ys) : ys.length ≤ 256 := by
  unfold rdNums at h
  split at h
  · cases h; simp
  · split at h
    · cases h
    · rw [(rdAll_lt h).1]; omega
theorem nrd_len (l : List UInt8) : (nrdR l).1.length ≤ 256 := by
  unfold nrdR
  cases h : rdNums l with
  | none => simp [nrdO]
  | some ys => have := rdNums_len h; simpa [nrdO] using this
theorem stepsR_len (l : List UInt8) (es hs : List Nat) (v : Bool) (h : stepsR l = (es, hs, v)) : es.length ≤ 256 ∧ hs.length ≤ 256 := by
  unfold stepsR at h
  split at h
  · cases h1 : rdNums (before 59 l) with
    | none =>
      rw [h1] at h
      have h0 : (([] : List Nat), ([] : List Nat), false) = (es, hs, v) := h
      cases h0
      simp
    | some a =>
      cases h2 : rdNums (after 59 l) with
      | none =>
        rw [h1, h2] at h
        have h0 : (([] : List Nat), ([] : List Nat), false) = (es, hs, v) := h
        cases h0
        simp
      | some b =>
        rw [h1, h2] at h
        have h0 : stepsP a b = (es, hs, v) := h
        unfold stepsP at h0
        split at h0
        · cases h0; exact ⟨rdNums_len h1, rdNums_len h2⟩
        · cases h0; simp
  · cases h; simp
theorem cut59 (l : List UInt8) (hl : l.length ≤ 1048576) : spec_l01Cut.f (strB l) 59 = some ((splitA 59 [] l).map strB) := by
  unfold spec_l01Cut.f
  rw [strB_size, if_pos ⟨by omega, by omega, by omega⟩, dataL]
  rfl
theorem l08ReadSteps_all (l : List UInt8) (hl : l.length ≤ 1048576) (es hs : List Nat) (v : Bool) (hr : stepsR l = (es, hs, v)) (w : World) :
    Calls Tryd.prog 83 #[.string (strB l)] w (GivesSteps w es hs v) := by
  have hcut := cut59 l hl
  rw [splitA_step, List.nil_append] at hcut
  cases hb : hasB 59 l with
  | false =>
    unfold stepsR at hr
    rw [hb, if_neg (by simp)] at hr
    cases hr
    rw [hb, if_neg (by simp)] at hcut
    exact l08ReadSteps_no l w _ hcut (by simp)
  | true =>
    unfold stepsR at hr
    rw [hb, if_pos rfl] at hr
    rw [hb, if_pos rfl, splitA_step, List.nil_append] at hcut
    cases hb2 : hasB 59 (after 59 l) with
    | true =>
      rw [rdNums_semi _ hb2] at hr
      have h0 : (([] : List Nat), ([] : List Nat), false) = (es, hs, v) := by
        rw [← hr]
        cases rdNums (before 59 l) <;> rfl
      cases h0
      rw [hb2, if_pos rfl] at hcut
      refine l08ReadSteps_no l w _ hcut ?_
      have := splitA_pos 59 [] (after 59 (after 59 l))
      simp only [List.map_cons, List.length_cons, List.length_map]
      omega
    | false =>
      rw [hb2, if_neg (by simp), (cut_no2 59 (after 59 l) hb2)] at hcut
      obtain ⟨k1, h1⟩ := spec_NRead_all (before 59 l) (Nat.le_trans (before_le 59 l) hl)
      obtain ⟨k2, h2⟩ := spec_NRead_all (after 59 l) (Nat.le_trans (after_le 59 l) hl)
      refine l08ReadSteps_two l w (strB (before 59 l)) (strB (after 59 l)) _ rfl hcut (nrdR (before 59 l)).1 (nrdR (after 59 l)).1 (nrdR (before 59 l)).2 (nrdR (after 59 l)).2 k1 k2 h1 h2 (nrd_len _) (nrd_len _) es hs v ?_
      rw [← hr]
      unfold nrdR
      cases rdNums (before 59 l) with
      | none => rfl
      | some a =>
        cases rdNums (after 59 l) with
        | none => rfl
        | some b => rfl
set_option maxHeartbeats 4000000 in
set_option maxRecDepth 100000 in
theorem specReadSteps_all (l : List UInt8) (hl : l.length ≤ 1048576) (es hs : List Nat) (v : Bool) (hr : stepsR l = (es, hs, v)) (w : World) :
    Calls Tryd.prog 39 #[.string (strB l)] w (GivesSteps w es hs v) := by
  have CN := Aside0.mk (l08ReadSteps_all l hl es hs v hr)
  clear hl hr
  generalize strB l = t at CN ⊢
  go_enter Tryd.func39, Tryd.ntmps39
  go_wp2_with (fail)
  (with_reducible refine (CN.out _).mono ?_)
  rintro e w1 ⟨A, B, c, d, rfl, hR1, hR2, hb1⟩
  have hs0 : (w.alloc (.cells #[.slice none 0 0, .slice none 0 0] 44)).heap.size = w.heap.size + 1 := by simp
  rw [hs0] at hR1 hR2
  have R1 := Aside0.mk hR1
  have R2 := Aside0.mk hR2
  have hB1 := below_then (below_alloc (Below.refl w.heap.size w) _) (by simp) hb1
  have BK := Aside0.mk (blk_below (heap_alloc_new w _) hb1)
  clear hb1 CN hR1 hR2 hs0
  have ac0 : w1.cell? ⟨w.heap.size, 0, none⟩ = some (.slice none 0 0) := (blk_cell BK.out 0).trans rfl
  have af0 := blk_frozen BK.out 0
  have ac1 : w1.cell? ⟨w.heap.size, 1, none⟩ = some (.slice none 0 0) := (blk_cell BK.out 1).trans rfl
  have af1 := blk_frozen BK.out 1
  go_wp2
  refine bodyPost_ret (results_ct rfl _ _ (w.heap.size) 44 #[.slice A es.length c, .slice B hs.length d] (0, 0) _ rfl (by (with_reducible repeat (first | refine blk_drewN ?_ _ | refine blk_drew ?_ | refine blk_alloc ?_ _)); refine blk_put (cs := #[.slice A es.length c, .slice none 0 0]) ?_ 1 _ rfl; (with_reducible repeat (first | refine blk_drewN ?_ _ | refine blk_drew ?_ | refine blk_alloc ?_ _)); refine blk_put (cs := #[.slice none 0 0, .slice none 0 0]) ?_ 0 _ rfl; (with_reducible repeat (first | refine blk_drewN ?_ _ | refine blk_drew ?_ | refine blk_alloc ?_ _)); exact BK.out) Tryd.underlying44 rfl (by kernel_rfl)) rfl ?_
  exact ⟨A, B, c, d, rfl, Kd.R_lower (base := w.heap.size + 1) (by repeat (first | exact R1.out | refine R_putfar ?_ _ _ _ (by omega))) (by omega), Kd.R_lower (base := w.heap.size + 1) (by repeat (first | exact R2.out | refine R_putfar ?_ _ _ _ (by omega))) (by omega), by repeat (first | exact hB1 | refine below_set ?_ (by omega) | apply below_alloc | apply pw_below_drewN | apply below_drew1)⟩
set_option maxRecDepth 100000 in
theorem eqSteps_any (A B A2 B2 : Option Addr) (c d c2 d2 : Nat) (es hs : List Nat) (w : World)
    (hE : Kd.C (kdFl .f32) w A es.length es) (hH : Kd.C (kdFl .f32) w B hs.length hs) (hE2 : Kd.C (kdFl .f32) w A2 es.length es) (hH2 : Kd.C (kdFl .f32) w B2 hs.length hs) :
    Calls Tryd.prog 26 #[.agg #[.slice A es.length c, .slice B hs.length d], .agg #[.slice A2 es.length c2, .slice B2 hs.length d2]] w fun e w' => e = .returned (.bool true) ∧ Below w.heap.size w w' := by
  have HE := Aside0.mk hE
  have HH := Aside0.mk hH
  have HE2 := Aside0.mk hE2
  have HH2 := Aside0.mk hH2
  clear hE hH hE2 hH2
  go_enter Tryd.func26, Tryd.ntmps26
  go_wp2_with (fail)
  refine (eqF32_any A A2 c c2 es _ (Kd.C_alloc (Kd.C_alloc HE.out _) _) (Kd.C_alloc (Kd.C_alloc HE2.out _) _)).mono ?_
  rintro e w1 ⟨rfl, ⟨nd, rfl⟩⟩
  go_wp2_with (fail)
  refine (eqF32_any B B2 d d2 hs _ (Kd.C_drewN (Kd.C_alloc (Kd.C_alloc HH.out _) _) _) (Kd.C_drewN (Kd.C_alloc (Kd.C_alloc HH2.out _) _) _)).mono ?_
  rintro e w1 ⟨rfl, ⟨nd2, rfl⟩⟩
  go_wp2
  go_ret
  exact ⟨rfl, by repeat (first | exact Below.refl _ _ | apply pw_below_drewN | apply below_alloc)⟩
set_option maxHeartbeats 8000000 in
set_option maxRecDepth 100000 in
theorem fnReadSteps_any (l : List UInt8) (w : World) (hG : GX w) (hl : l.length ≤ 9223372036854775807) :
    Calls Tryd.prog 9 #[.string (strB l)] w fun e w' => e = .returned (.bool true) ∧ Below w.heap.size w w' := by
  have hsz : (strB l).size = l.length := strB_size l
  by_cases hbig : 1048576 < l.length
  · have hb1 : (1048576 : Int) < ((strB l).size : Int) := by omega
    clear hsz hbig
    generalize strB l = t at *
    go_enter Tryd.func9, Tryd.ntmps9
    go_wp2
    go_ret
    exact ⟨rfl, Below.refl _ _⟩
  · have hl1 : l.length ≤ 1048576 := by omega
    have hb1 : ¬ (1048576 : Int) < ((strB l).size : Int) := by omega
    obtain ⟨k, hk⟩ := impl_steps l hl1
    obtain ⟨es, hs, v, hr⟩ : ∃ es hs v, stepsR l = (es, hs, v) := ⟨_, _, _, rfl⟩
    obtain ⟨hle, hlh⟩ := stepsR_len l es hs v hr
    rw [hr] at hk
    have CS := Aside0.mk (specReadSteps_all l hl1 es hs v hr)
    have CI := Aside0.mk (fun (W : World) (h : GX W) => impl_ReadSteps.calls k (strB l) es hs v W h hk)
    have hM : 1 + es.length + hs.length < 2000 := by omega
    have HMK := Aside0.mk (fun A B c d base w h1 h2 h3 => markSteps_any A B c d es hs 1 base w h1 h2 hM h3)
    have HHD := Aside0.mk (fun A B c d w h1 h2 => heldSteps_any A B c d es hs 1 w h1 h2 hM)
    generalize 1 + es.length + hs.length = M at HMK HHD hM
    have HG := Aside0.mk hG
    clear hG hsz hbig hl hl1 hk hr hle hlh
    generalize strB l = t at *
    go_enter Tryd.func9, Tryd.ntmps9
    go_wp2_with (fail)
    (with_reducible refine (CS.out _).mono ?_)
    rintro e w1 ⟨A, B, c, d, rfl, hR1, hR2, hB1⟩
    have HC1 := Aside0.mk (Kd.R_reads' hR1).2.2
    have HD1 := Aside0.mk (Kd.R_reads' hR2).2.2
    have BK1 := Aside0.mk (heap_alloc_new w1 (.cells #[.slice A es.length c, .slice B hs.length d] 44))
    have hBa := below_alloc hB1 (.cells #[.slice A es.length c, .slice B hs.length d] 44)
    have hBs := below_alloc (Below.refl w1.heap.size w1) (.cells #[.slice A es.length c, .slice B hs.length d] 44)
    have hbs : (w1.alloc (.cells #[.slice A es.length c, .slice B hs.length d] 44)).heap.size = w1.heap.size + 1 := by simp
    clear hR1 hR2
    go_wp2_with (fail)
    (with_reducible refine (CI.out _ (HG.out.below hBa)).mono ?_)
    rintro e w2 ⟨v0, v1, rfl, hr0, hr1, hb2⟩
    obtain ⟨A2, c2, rfl⟩ := Kd.R_slice hr0
    obtain ⟨B2, d2, rfl⟩ := Kd.R_slice hr1
    have R0 := Aside0.mk hr0
    have R1 := Aside0.mk hr1
    have bk2 := blk_below BK1.out hb2
    have hB2 := below_then hBa hBa.size hb2
    have hS2 := below_then hBs hBs.size hb2
    have hlt2 : w1.heap.size < w2.heap.size := by have := hb2.size; omega
    have c0 : w2.cell? ⟨w1.heap.size, 0, none⟩ = some (.slice A es.length c) := (blk_cell bk2 0).trans rfl
    have c1 : w2.cell? ⟨w1.heap.size, 1, none⟩ = some (.slice B hs.length d) := (blk_cell bk2 1).trans rfl
    have BK2 := Aside0.mk (blk_alloc bk2 (.cells #[.slice A2 es.length c2, .slice B2 hs.length d2] 44))
    have BN2 := Aside0.mk (heap_alloc_new w2 (.cells #[.slice A2 es.length c2, .slice B2 hs.length d2] 44))
    have HR0 := Aside0.mk (Kd.R_alloc R0.out (.cells #[.slice A2 es.length c2, .slice B2 hs.length d2] 44))
    have HR1 := Aside0.mk (Kd.R_alloc R1.out (.cells #[.slice A2 es.length c2, .slice B2 hs.length d2] 44))
    have hBb := below_alloc hB2 (.cells #[.slice A2 es.length c2, .slice B2 hs.length d2] 44)
    have hSb := below_alloc hS2 (.cells #[.slice A2 es.length c2, .slice B2 hs.length d2] 44)
    clear hr0 hr1 hb2 bk2 R0 R1 BK1 hBa hB2 hS2 hBs
    go_wp2_with (fail)
    refine (eqSteps_any A2 B2 A B c2 d2 c d es hs (w2.alloc (.cells #[.slice A2 es.length c2, .slice B2 hs.length d2] 44)) (Kd.R_reads' HR0.out).2.2 (Kd.R_reads' HR1.out).2.2 (Kd.C_below HC1.out hSb) (Kd.C_below HD1.out hSb)).mono ?_
    rintro e w3 ⟨rfl, hb3⟩
    have BK3 := Aside0.mk (blk_below BK2.out hb3)
    have BN3 := Aside0.mk (blk_below BN2.out hb3)
    have HR3 := Aside0.mk (Kd.R_below HR0.out hb3)
    have HR4 := Aside0.mk (Kd.R_below HR1.out hb3)
    have hB3 := below_then hBb hBb.size hb3
    have hS3 := below_then hSb hSb.size hb3
    have hsz3 : w2.heap.size < w3.heap.size := by have := hb3.size; simp at this; omega
    have d0 : w3.cell? ⟨w2.heap.size, 0, none⟩ = some (.slice A2 es.length c2) := (blk_cell BN3.out 0).trans rfl
    have d1 : w3.cell? ⟨w2.heap.size, 1, none⟩ = some (.slice B2 hs.length d2) := (blk_cell BN3.out 1).trans rfl
    clear hb3 BK2 BN2 HR0 HR1 hBb hSb c0 c1
    have CMK := Aside0.mk (HMK.out A2 B2 c2 d2 (w1.alloc (.cells #[.slice A es.length c, .slice B hs.length d] 44)).heap.size w3 HR3.out HR4.out (by omega))
    clear HMK
    cases v
    · go_wp2_with (fail)
      refine (CMK.out).mono ?_
      rintro e w4 ⟨rfl, hC4, hD4, hb4, hF4⟩
      have HC4 := Aside0.mk hC4
      have HD4 := Aside0.mk hD4
      have BK4 := Aside0.mk (hb4.block _ (by omega) |>.trans BK3.out)
      have BN4 := Aside0.mk ((hF4 _ hsz3 (Kd.R_ne HR3.out BN3.out (by decide)) (Kd.R_ne HR4.out BN3.out (by decide))).trans BN3.out)
      have hB4 := hB3.trans (hb4.mono (by have := hB1.size; omega))
      have hS4 := hS3.trans (hb4.mono (by omega))
      have hsz4 := hb4.size
      have d0 : w4.cell? ⟨w2.heap.size, 0, none⟩ = some (.slice A2 es.length c2) := (blk_cell BN4.out 0).trans rfl
      have d1 : w4.cell? ⟨w2.heap.size, 1, none⟩ = some (.slice B2 hs.length d2) := (blk_cell BN4.out 1).trans rfl
      clear hC4 hD4 hb4 hF4 BK3 BN3 HR3 HR4 hB3 hS3 CMK
      go_wp2_with (fail)
      refine (HHD.out A2 B2 c2 d2 _ HC4.out HD4.out).mono ?_
      rintro e w5 ⟨rfl, hb5⟩
      have HC5 := Aside0.mk (Kd.C_below HC4.out hb5)
      have HD5 := Aside0.mk (Kd.C_below HD4.out hb5)
      have BK5 := Aside0.mk (blk_below BK4.out hb5)
      have BN5 := Aside0.mk (blk_below BN4.out hb5)
      have hB5 := below_then hB4 hB4.size hb5
      have hS5 := below_then hS4 hS4.size hb5
      have hsz5 := hb5.size
      clear hb5 HC4 HD4 BK4 BN4 hB4 hS4 d0 d1
      go_wp2_with (fail)
      (with_reducible refine (CI.out _ (HG.out.below hB5)).mono ?_)
      rintro e w6 ⟨v0, v1, rfl, hr0, hr1, hb6⟩
      obtain ⟨A3, c3, rfl⟩ := Kd.R_slice hr0
      obtain ⟨B3, d3, rfl⟩ := Kd.R_slice hr1
      have HE6 := Aside0.mk (Kd.C_alloc (Kd.R_reads' hr0).2.2 (.cells #[.slice A3 es.length c3, .slice B3 hs.length d3] 44))
      have HH6 := Aside0.mk (Kd.C_alloc (Kd.R_reads' hr1).2.2 (.cells #[.slice A3 es.length c3, .slice B3 hs.length d3] 44))
      have HC6 := Aside0.mk (Kd.C_alloc (Kd.C_below HC5.out hb6) (.cells #[.slice A3 es.length c3, .slice B3 hs.length d3] 44))
      have HD6 := Aside0.mk (Kd.C_alloc (Kd.C_below HD5.out hb6) (.cells #[.slice A3 es.length c3, .slice B3 hs.length d3] 44))
      have bk6 := blk_below BK5.out hb6
      have bn6 := blk_below BN5.out hb6
      have hB6 := below_alloc (below_then hB5 hB5.size hb6) (.cells #[.slice A3 es.length c3, .slice B3 hs.length d3] 44)
      have hS6 := below_alloc (below_then hS5 hS5.size hb6) (.cells #[.slice A3 es.length c3, .slice B3 hs.length d3] 44)
      have hsz6 := hb6.size
      have hlt6 : w1.heap.size < w6.heap.size := by omega
      have hlt7 : w2.heap.size < w6.heap.size := by omega
      have c0 : w6.cell? ⟨w1.heap.size, 0, none⟩ = some (.slice A es.length c) := (blk_cell bk6 0).trans rfl
      have c1 : w6.cell? ⟨w1.heap.size, 1, none⟩ = some (.slice B hs.length d) := (blk_cell bk6 1).trans rfl
      have BN6 := Aside0.mk (blk_alloc bn6 (.cells #[.slice A3 es.length c3, .slice B3 hs.length d3] 44))
      clear hr0 hr1 hb6 bk6 bn6 HC5 HD5 BK5 BN5 hB5 hS5 CI HG
      go_wp2_with (fail)
      refine (eqSteps_any A3 B3 A B c3 d3 c d es hs (w6.alloc (.cells #[.slice A3 es.length c3, .slice B3 hs.length d3] 44)) HE6.out HH6.out (Kd.C_below HC1.out hS6) (Kd.C_below HD1.out hS6)).mono ?_
      rintro e w7 ⟨rfl, hb7⟩
      have HC7 := Aside0.mk (Kd.C_below HC6.out hb7)
      have HD7 := Aside0.mk (Kd.C_below HD6.out hb7)
      have bn7 := blk_below BN6.out hb7
      have hB7 := below_then hB6 hB6.size hb7
      have d0 : w7.cell? ⟨w2.heap.size, 0, none⟩ = some (.slice A2 es.length c2) := (blk_cell bn7 0).trans rfl
      have d1 : w7.cell? ⟨w2.heap.size, 1, none⟩ = some (.slice B2 hs.length d2) := (blk_cell bn7 1).trans rfl
      clear hb7 bn7 HC6 HD6 BN6 hB6 hS6 c0 c1 HE6 HH6 HC1 HD1
      go_wp2_with (fail)
      refine (HHD.out A2 B2 c2 d2 _ HC7.out HD7.out).mono ?_
      rintro e w8 ⟨rfl, hb8⟩
      have hB8 := below_then hB7 hB7.size hb8
      clear hb8 HC7 HD7 hB7 d0 d1 HHD
      go_wp2
      go_ret
      exact ⟨rfl, hB8⟩
    · go_wp2_with (fail)
      refine (CMK.out).mono ?_
      rintro e w4 ⟨rfl, hC4, hD4, hb4, hF4⟩
      have HC4 := Aside0.mk hC4
      have HD4 := Aside0.mk hD4
      have BK4 := Aside0.mk (hb4.block _ (by omega) |>.trans BK3.out)
      have BN4 := Aside0.mk ((hF4 _ hsz3 (Kd.R_ne HR3.out BN3.out (by decide)) (Kd.R_ne HR4.out BN3.out (by decide))).trans BN3.out)
      have hB4 := hB3.trans (hb4.mono (by have := hB1.size; omega))
      have hS4 := hS3.trans (hb4.mono (by omega))
      have hsz4 := hb4.size
      have d0 : w4.cell? ⟨w2.heap.size, 0, none⟩ = some (.slice A2 es.length c2) := (blk_cell BN4.out 0).trans rfl
      have d1 : w4.cell? ⟨w2.heap.size, 1, none⟩ = some (.slice B2 hs.length d2) := (blk_cell BN4.out 1).trans rfl
      clear hC4 hD4 hb4 hF4 BK3 BN3 HR3 HR4 hB3 hS3 CMK
      go_wp2_with (fail)
      refine (HHD.out A2 B2 c2 d2 _ HC4.out HD4.out).mono ?_
      rintro e w5 ⟨rfl, hb5⟩
      have HC5 := Aside0.mk (Kd.C_below HC4.out hb5)
      have HD5 := Aside0.mk (Kd.C_below HD4.out hb5)
      have BK5 := Aside0.mk (blk_below BK4.out hb5)
      have BN5 := Aside0.mk (blk_below BN4.out hb5)
      have hB5 := below_then hB4 hB4.size hb5
      have hS5 := below_then hS4 hS4.size hb5
      have hsz5 := hb5.size
      clear hb5 HC4 HD4 BK4 BN4 hB4 hS4 d0 d1
      go_wp2_with (fail)
      (with_reducible refine (CI.out _ (HG.out.below hB5)).mono ?_)
      rintro e w6 ⟨v0, v1, rfl, hr0, hr1, hb6⟩
      obtain ⟨A3, c3, rfl⟩ := Kd.R_slice hr0
      obtain ⟨B3, d3, rfl⟩ := Kd.R_slice hr1
      have HE6 := Aside0.mk (Kd.C_alloc (Kd.R_reads' hr0).2.2 (.cells #[.slice A3 es.length c3, .slice B3 hs.length d3] 44))
      have HH6 := Aside0.mk (Kd.C_alloc (Kd.R_reads' hr1).2.2 (.cells #[.slice A3 es.length c3, .slice B3 hs.length d3] 44))
      have HC6 := Aside0.mk (Kd.C_alloc (Kd.C_below HC5.out hb6) (.cells #[.slice A3 es.length c3, .slice B3 hs.length d3] 44))
      have HD6 := Aside0.mk (Kd.C_alloc (Kd.C_below HD5.out hb6) (.cells #[.slice A3 es.length c3, .slice B3 hs.length d3] 44))
      have bk6 := blk_below BK5.out hb6
      have bn6 := blk_below BN5.out hb6
      have hB6 := below_alloc (below_then hB5 hB5.size hb6) (.cells #[.slice A3 es.length c3, .slice B3 hs.length d3] 44)
      have hS6 := below_alloc (below_then hS5 hS5.size hb6) (.cells #[.slice A3 es.length c3, .slice B3 hs.length d3] 44)
      have hsz6 := hb6.size
      have hlt6 : w1.heap.size < w6.heap.size := by omega
      have hlt7 : w2.heap.size < w6.heap.size := by omega
      have c0 : w6.cell? ⟨w1.heap.size, 0, none⟩ = some (.slice A es.length c) := (blk_cell bk6 0).trans rfl
      have c1 : w6.cell? ⟨w1.heap.size, 1, none⟩ = some (.slice B hs.length d) := (blk_cell bk6 1).trans rfl
      have BN6 := Aside0.mk (blk_alloc bn6 (.cells #[.slice A3 es.length c3, .slice B3 hs.length d3] 44))
      clear hr0 hr1 hb6 bk6 bn6 HC5 HD5 BK5 BN5 hB5 hS5 CI HG
      go_wp2_with (fail)
      refine (eqSteps_any A3 B3 A B c3 d3 c d es hs (w6.alloc (.cells #[.slice A3 es.length c3, .slice B3 hs.length d3] 44)) HE6.out HH6.out (Kd.C_below HC1.out hS6) (Kd.C_below HD1.out hS6)).mono ?_
      rintro e w7 ⟨rfl, hb7⟩
      have HC7 := Aside0.mk (Kd.C_below HC6.out hb7)
      have HD7 := Aside0.mk (Kd.C_below HD6.out hb7)
      have bn7 := blk_below BN6.out hb7
      have hB7 := below_then hB6 hB6.size hb7
      have d0 : w7.cell? ⟨w2.heap.size, 0, none⟩ = some (.slice A2 es.length c2) := (blk_cell bn7 0).trans rfl
      have d1 : w7.cell? ⟨w2.heap.size, 1, none⟩ = some (.slice B2 hs.length d2) := (blk_cell bn7 1).trans rfl
      clear hb7 bn7 HC6 HD6 BN6 hB6 hS6 c0 c1 HE6 HH6 HC1 HD1
      go_wp2_with (fail)
      refine (HHD.out A2 B2 c2 d2 _ HC7.out HD7.out).mono ?_
      rintro e w8 ⟨rfl, hb8⟩
      have hB8 := below_then hB7 hB7.size hb8
      clear hb8 HC7 HD7 hB7 d0 d1 HHD
      go_wp2
      go_ret
      exact ⟨rfl, hB8⟩
end RdS
end Go.Proofs.YtlfgkibfhhifmaaDoor

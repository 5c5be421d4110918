/- FnExactRecoverJournal: the plain laws, the marks, the walk. -/
import Derived.Test.YtlfgkibfhhifmaaDoorPRecx1
import Derived.Test.YtlfgkibfhhifmaaDoorPRimx1
import Derived.Test.YtlfgkibfhhifmaaDoorJourL
namespace Go.Proofs.YtlfgkibfhhifmaaDoor
open Go.RowKit Go.Proofs.YtlfgkibfhhifmaaDoorW.PrintWords Go.Proofs.YtlfgkibfhhifmaaDoorW.PrintLast Go.Proofs.YtlfgkibfhhifmaaDoorW.PrintMore
theorem parts_has (c : UInt8) (l : List UInt8) (h : hasB c l = true) : l = before c l ++ c :: after c l := by
  induction l with
  | nil => simp [hasB] at h
  | cons x l ih =>
    by_cases hx : x = c
    · simp [before, after, hx]
    · have h2 : hasB c l = true := by simpa [hasB, hx] using h
      have := ih h2
      simp only [before, after, if_neg hx, List.cons_append]
      rw [← this]
theorem parts_no (c : UInt8) (l : List UInt8) (h : hasB c l = false) : before c l = l ∧ after c l = [] := by
  induction l with
  | nil => exact ⟨rfl, rfl⟩
  | cons x l ih =>
    by_cases hx : x = c
    · simp [hasB, hx] at h
    · have h2 : hasB c l = false := by simpa [hasB, hx] using h
      obtain ⟨a, b⟩ := ih h2
      simp [before, after, hx, a, b]
def lines (l : List UInt8) : List (List UInt8) := (splitA 10 [] l).dropLast
theorem lines_no (l : List UInt8) (h : hasB 10 l = false) : lines l = [] := by
  unfold lines
  rw [splitA_step, h]
  simp
theorem splitA_ne (c : UInt8) (cur l : List UInt8) : splitA c cur l ≠ [] := by
  rw [splitA_step]; simp
theorem lines_has (l : List UInt8) (h : hasB 10 l = true) : lines l = before 10 l :: lines (after 10 l) := by
  unfold lines
  rw [splitA_step, h, if_pos rfl, List.nil_append]
  exact List.dropLast_cons_of_ne_nil (splitA_ne _ _ _)
def goodS (n : Nat) (s : List UInt8) : Bool := hasB 32 s && decide (before 32 s = Lib.itoa ((chk n (after 32 s) : Nat) : Int))
def recS : Nat → List (List UInt8) → List (List UInt8) × Nat
  | _, [] => ([], 0)
  | n, s :: r => if goodS n s = true then (after 32 s :: (recS (chk n (after 32 s)) r).1, s.length + 1 + (recS (chk n (after 32 s)) r).2) else ([], 0)
theorem drop_mid (a b : List UInt8) (c : UInt8) : (b ++ c :: a).drop (b.length + 1) = a := by
  rw [List.drop_append]
  simp
theorem take_mid (a b : List UInt8) (c : UInt8) : (b ++ c :: a).take b.length = b := by simp
theorem ba_toList (l : List UInt8) : (strB l).toList = l := by
  rw [Lib.toList_data]
  rfl
theorem data_strB (l : List UInt8) : (strB l).data.toList = l := by unfold strB; simp
theorem check_of (n : Nat) (l : List UInt8) (hn : n < 65003) (hl : l.length < 4611686018427387904) : spec_l01Check.f (n : Int) (strB l) = some ((chk n l : Nat) : Int) := by
  have h : 0 ≤ (n : Int) ∧ (n : Int) < 65003 ∧ (strB l).size < 4611686018427387904 := ⟨by omega, by omega, by rw [strB_size]; exact hl⟩
  unfold spec_l01Check.f
  rw [if_pos h, Int.toNat_natCast, data_strB]
theorem dec_of (n : Nat) (hn : n < 65003) : spec_l01Dec.f (n : Int) = some (strB (Lib.itoa (n : Int))) := by
  have h : 0 ≤ (n : Int) ∧ (n : Int) < 65003 := ⟨by omega, by omega⟩
  unfold spec_l01Dec.f
  rw [if_pos h]
theorem w_one (a : Nat) (h : a < 2000000000) : wrap64 ((a : Int) + 1) = ((a + 1 : Nat) : Int) := by unfold wrap64; omega
theorem w_two (m a : Nat) (h : m + a < 2000000000) : wrap64 ((m : Int) + wrap64 ((a : Int) + 1)) = ((m + (a + 1) : Nat) : Int) := by
  rw [w_one a (by omega)]
  unfold wrap64
  omega
theorem len_snoc {α : Type} (a : List α) (x : α) : (a ++ [x]).length = a.length + 1 := by simp
theorem inner_rounds (xs : List ByteArray) (i : Nat) (s post pre : List UInt8) (hxi : xs[i]? = some (strB s)) (hs : s = pre ++ post) (hl : s.length < 4611686018427387904) (x6 : List ByteArray) (x7 x8 : Int) (k : Nat) (r : List ByteArray × Int)
    (hj : PRec.spec_l08Recover.j2 k xs x6 x7 x8 (i : Int) ((pre.length + (before 32 post).length : Nat) : Int) = some r) :
    ∃ k', PRec.spec_l08Recover.l1 k' xs x6 x7 x8 (i : Int) (pre.length : Int) = some r := by
  have hlt : i < xs.length := (List.getElem?_eq_some_iff.1 hxi).1
  have hrd : rdOf ByteArray.empty xs (i : Int) = strB s := by simp [rdOf, List.getD_eq_getElem?_getD, hxi]
  induction post generalizing pre with
  | nil =>
    refine ⟨k + 1, ?_⟩
    rw [PRec.spec_l08Recover.l1, if_pos (by omega), if_pos (by omega), hrd, strB_size, hs, if_neg (by simp)]
    simpa [before] using hj
  | cons x post ih =>
    have hlen : s.length = pre.length + (post.length + 1) := by rw [hs]; simp
    by_cases hx : x = 32
    · refine ⟨k + 1, ?_⟩
      have hb := bt_here pre post x
      rw [PRec.spec_l08Recover.l1, if_pos (by omega), if_pos (by omega), hrd, strB_size, if_pos (by omega), if_pos (by omega), hs, hb, if_pos (by rw [hx]; rfl)]
      simpa [before, hx] using hj
    · have hcn : ¬ ((x.toNat : Int) = 32) := fun h => hx (UInt8.toNat_inj.1 (by rw [show (32 : UInt8).toNat = 32 from rfl]; omega))
      have e1 : wrap64 ((pre.length : Int) + 1) = ((pre ++ [x]).length : Int) := by unfold wrap64; simp only [List.length_append, List.length_singleton]; omega
      have e2 : (pre ++ [x]).length + (before 32 post).length = pre.length + (before 32 (x :: post)).length := by simp [before, hx]; omega
      obtain ⟨k', hk'⟩ := ih (pre ++ [x]) (by rw [hs]; simp) (by rw [e2]; exact hj)
      refine ⟨k' + 1, ?_⟩
      have hb := bt_here pre post x
      rw [PRec.spec_l08Recover.l1, if_pos (by omega), if_pos (by omega), hrd, strB_size, if_pos (by omega), if_pos (by omega)]
      rw [show strB s = strB (pre ++ x :: post) by rw [hs], hb, if_neg hcn, e1]
      exact hk'
theorem spec_rec_rounds (qs ps : List (List UInt8)) (n m : Nat) (acc : List ByteArray) (hn : n < 65003) (hm : m + (qs.map fun s => s.length + 1).sum < 1000000000) (hps : ps.length + qs.length < 1000000000) (hac : acc.length + qs.length < 1000000000) :
    ∃ k, PRec.spec_l08Recover.l0 k ((ps ++ qs).map strB) acc (n : Int) (m : Int) (ps.length : Int) = some (acc ++ (recS n qs).1.map strB, ((m + (recS n qs).2 : Nat) : Int)) := by
  induction qs generalizing ps n m acc with
  | nil =>
    refine ⟨1, ?_⟩
    rw [PRec.spec_l08Recover.l0, if_neg (by simp)]
    simp [recS]
  | cons s qs ih =>
    simp only [List.map_cons, List.sum_cons, List.length_cons] at hm hps hac
    have hxi : ((ps ++ s :: qs).map strB)[ps.length]? = some (strB s) := by simp
    have hlt : ps.length < ((ps ++ s :: qs).map strB).length := (List.getElem?_eq_some_iff.1 hxi).1
    have hrd : rdOf ByteArray.empty ((ps ++ s :: qs).map strB) (ps.length : Int) = strB s := by simp [rdOf, List.getD_eq_getElem?_getD, hxi]
    -- what j2 answers
    have hj : ∃ k, PRec.spec_l08Recover.j2 k ((ps ++ s :: qs).map strB) acc (n : Int) (m : Int) (ps.length : Int) ((([] : List UInt8).length + (before 32 s).length : Nat) : Int) = some (acc ++ (recS n (s :: qs)).1.map strB, ((m + (recS n (s :: qs)).2 : Nat) : Int)) := by
      rw [List.length_nil, Nat.zero_add]
      cases hh : hasB 32 s with
      | false =>
        obtain ⟨hb, _⟩ := parts_no 32 s hh
        refine ⟨1, ?_⟩
        rw [PRec.spec_l08Recover.j2, if_pos (by omega), if_pos (by omega), hrd, strB_size, hb, if_pos rfl]
        have hg : goodS n s = false := by simp [goodS, hh]
        simp [recS, hg]
      | true =>
        have hp := parts_has 32 s hh
        have hlen : s.length = (before 32 s).length + ((after 32 s).length + 1) := by
          have := congrArg List.length hp
          simpa using this
        have ea : (strB s).extract ((before 32 s).length + 1) s.length = strB (after 32 s) := by
          rw [ext_strB, List.take_length]
          exact congrArg strB ((congrArg (List.drop _) hp).trans (drop_mid _ _ _))
        have eb : (strB s).extract 0 (before 32 s).length = strB (before 32 s) := by
          rw [ext_strB, List.drop_zero]
          exact congrArg strB ((congrArg (List.take _) hp).trans (take_mid _ _ _))
        have EW := Lib.hid (w_one (before 32 s).length (by omega))
        have EW2 := Lib.hid (w_two m s.length (by omega))
        have EW3 := Lib.hid ((w_one ps.length (by omega)).trans (congrArg (fun n : Nat => (n : Int)) (len_snoc ps s).symm))
        have hchk : spec_l01Check.f (n : Int) (strB (after 32 s)) = some ((chk n (after 32 s) : Nat) : Int) := by
          exact check_of n _ hn (by omega)
        have hcl := chk_lt n (after 32 s) hn
        have hdec : spec_l01Dec.f ((chk n (after 32 s) : Nat) : Int) = some (strB (Lib.itoa ((chk n (after 32 s) : Nat) : Int))) := dec_of _ hcl
        by_cases hg : before 32 s = Lib.itoa ((chk n (after 32 s) : Nat) : Int)
        · have hgs : goodS n s = true := by simp [goodS, hh, hg]
          obtain ⟨k, hk⟩ := ih (ps ++ [s]) (chk n (after 32 s)) (m + (s.length + 1)) (acc ++ [strB (after 32 s)]) hcl (by omega) (by simp only [List.length_append, List.length_singleton]; omega) (by simp only [List.length_append, List.length_singleton]; omega)
          refine ⟨k + 1, ?_⟩
          rw [PRec.spec_l08Recover.j2, if_pos (by omega), if_pos (by omega), hrd, strB_size, if_neg (by omega), EW.out, if_pos (by omega), if_pos (by omega)]
          rw [Int.toNat_natCast, ea, hchk, Option.bind_some, if_pos (by omega), if_pos (by omega), hdec, Option.bind_some]
          rw [Int.toNat_natCast, eb, ba_toList, ba_toList, if_pos hg, if_pos (by omega), EW2.out, EW3.out]
          have hxs : ps ++ [s] ++ qs = ps ++ s :: qs := by simp
          rw [hxs] at hk
          rw [hk]
          rw [recS, if_pos hgs, List.append_assoc, List.singleton_append, Nat.add_assoc m (s.length + 1), List.map_cons]
        · have hgs : goodS n s = false := by simp [goodS, hh, hg]
          refine ⟨1, ?_⟩
          rw [PRec.spec_l08Recover.j2, if_pos (by omega), if_pos (by omega), hrd, strB_size, if_neg (by omega), EW.out, if_pos (by omega), if_pos (by omega)]
          rw [Int.toNat_natCast, ea, hchk, Option.bind_some, if_pos (by omega), if_pos (by omega), hdec, Option.bind_some]
          rw [Int.toNat_natCast, eb, ba_toList, ba_toList, if_neg hg]
          simp [recS, hgs]
    obtain ⟨k, hj⟩ := hj
    obtain ⟨k', hk'⟩ := inner_rounds _ ps.length s s [] hxi rfl (by omega) acc n m k _ hj
    refine ⟨k' + 1, ?_⟩
    rw [PRec.spec_l08Recover.l0, if_pos (by omega)]
    exact hk'
theorem lines_sum (n : Nat) (l : List UInt8) (hn : l.length ≤ n) : ((lines l).map fun s => s.length + 1).sum ≤ l.length := by
  induction n generalizing l with
  | zero =>
    obtain rfl := List.eq_nil_of_length_eq_zero (Nat.le_zero.1 hn)
    simp [lines, splitA]
  | succ n ih =>
    cases h : hasB 10 l with
    | false => rw [lines_no l h]; simp
    | true =>
      have hp := congrArg List.length (parts_has 10 l h)
      rw [List.length_append, List.length_cons] at hp
      have := ih (after 10 l) (by omega)
      rw [lines_has l h, List.map_cons, List.sum_cons]
      omega
theorem len_le_sum (xs : List (List UInt8)) : xs.length ≤ (xs.map fun s => s.length + 1).sum := by
  induction xs with
  | nil => simp
  | cons x xs ih => simp only [List.map_cons, List.sum_cons, List.length_cons]; omega
theorem spec_lines (l : List UInt8) (hl : l.length < 4398046511104) : ∃ z, spec_l08Lines.f (strB l) = some ((lines l).map strB, z) := by
  have hs : (strB l).size < 4398046511104 := by rw [strB_size]; exact hl
  have e : (segs l).take ((segs l).length - 1) = (lines l).map strB := by
    unfold segs lines
    rw [← List.dropLast_eq_take, List.map_dropLast]
  refine ⟨rdOf ByteArray.empty (segs l) (((segs l).length - 1 : Nat) : Int), ?_⟩
  unfold spec_l08Lines.f
  rw [if_pos hs, data_strB, e]
theorem spec_rec (l : List UInt8) (hl : l.length ≤ 16000) : ∃ k, PRec.spec_RecoverJournal.f k (strB l) = some ((recS 0 (lines l)).1.map strB, (((recS 0 (lines l)).2 : Nat) : Int), true) := by
  have h1 := lines_sum l.length l (Nat.le_refl _)
  have h2 := len_le_sum (lines l)
  obtain ⟨z, hz⟩ := spec_lines l (by omega)
  obtain ⟨k, hk⟩ := spec_rec_rounds (lines l) [] 0 0 [] (by omega) (by omega) (by rw [List.length_nil]; omega) (by rw [List.length_nil]; omega)
  rw [List.nil_append, List.nil_append, Nat.zero_add] at hk
  have hk' : PRec.spec_l08Recover.l0 k ((lines l).map strB) [] 0 0 0 = _ := hk
  refine ⟨k, ?_⟩
  unfold PRec.spec_RecoverJournal.f PRec.spec_l08Recover.f
  rw [if_neg (by rw [strB_size]; omega), hz, Option.bind_some, hk', Option.bind_some]
theorem cut_of (l : List UInt8) (c : UInt8) (hl : l.length < 4611686018427387904) : strings_Cut.f (strB l) (⟨#[c]⟩ : ByteArray) = some (strB (before c l), strB (after c l), hasB c l) := by
  have h : (⟨#[c]⟩ : ByteArray).size = 1 ∧ (strB l).size < 4611686018427387904 := ⟨rfl, by rw [strB_size]; exact hl⟩
  unfold strings_Cut.f
  rw [if_pos h, data_strB]
  rfl
theorem icheck_of (n : Nat) (l : List UInt8) (hn : n < 65003) (hl : l.length < 4611686018427387904) : impl_CheckOf.f (n : Int) (strB l) = some (((chk n l : Nat) : Int), true) := by
  have h : 0 ≤ (n : Int) ∧ (n : Int) < 65003 ∧ (strB l).size < 4611686018427387904 := ⟨by omega, by omega, by rw [strB_size]; exact hl⟩
  unfold impl_CheckOf.f
  rw [if_pos h, Int.toNat_natCast, data_strB]
theorem idec_of (n : Nat) (hn : n < 65003) : impl_Decimal.f (n : Int) = some (strB (Lib.itoa (n : Int))) := by
  have h : 0 ≤ (n : Int) ∧ (n : Int) < 65003 := ⟨by omega, by omega⟩
  unfold impl_Decimal.f
  rw [if_pos h]
theorem before_le (c : UInt8) (l : List UInt8) : (before c l).length ≤ l.length ∧ (after c l).length ≤ l.length := by
  induction l with
  | nil => exact ⟨Nat.le_refl _, Nat.le_refl _⟩
  | cons x l ih =>
    unfold before after
    split
    · simp
    · simp only [List.length_cons]; omega
theorem impl_rec_rounds (b : Nat) (rest done : List UInt8) (hb : rest.length ≤ b) (hl : (done ++ rest).length ≤ 16000) (n : Nat) (hn : n < 65003) (acc : List ByteArray) (hac : acc.length + rest.length < 1000000000) :
    ∃ k, PRim.impl_RecoverJournal.l0 k (strB (done ++ rest)) acc (done.length : Int) (n : Int) = some (acc ++ (recS n (lines rest)).1.map strB, ((done.length + (recS n (lines rest)).2 : Nat) : Int), true) := by
  induction b generalizing rest done n acc with
  | zero =>
    obtain rfl := List.eq_nil_of_length_eq_zero (Nat.le_zero.1 hb)
    refine ⟨1, ?_⟩
    rw [List.append_nil]
    rw [PRim.impl_RecoverJournal.l0, if_pos (by omega), strB_size, if_pos (by omega), Int.toNat_natCast, ext_strB, List.take_length, List.drop_length]
    rw [cut_of [] 10 (by simp), Option.bind_some]
    rw [show before 10 ([] : List UInt8) = [] from rfl, cut_of [] 32 (by simp), Option.bind_some, show after 32 ([] : List UInt8) = [] from rfl, icheck_of n [] hn (by simp), Option.bind_some]
    simp [hasB, lines, splitA, recS]
  | succ b ih =>
    have hsz : (strB (done ++ rest)).size = done.length + rest.length := by rw [strB_size, List.length_append]
    rw [List.length_append] at hl
    have hex : (strB (done ++ rest)).extract done.length (done.length + rest.length) = strB rest := by
      rw [ext_strB, ← List.length_append, List.take_length, List.drop_left]
    have hc1 := cut_of rest 10 (by omega)
    have hle := before_le 10 rest
    have hc2 := cut_of (before 10 rest) 32 (by omega)
    have hle2 := before_le 32 (before 10 rest)
    have hc3 := icheck_of n (after 32 (before 10 rest)) hn (by omega)
    have hcl := chk_lt n (after 32 (before 10 rest)) hn
    have hc4 := idec_of _ hcl
    cases h10 : hasB 10 rest with
    | false =>
      refine ⟨1, ?_⟩
      rw [PRim.impl_RecoverJournal.l0, if_pos (by omega), hsz, if_pos (by omega), Int.toNat_natCast, hex, hc1, Option.bind_some, hc2, Option.bind_some, hc3, Option.bind_some, h10, if_neg Bool.false_ne_true, lines_no rest h10]
      simp [recS]
    | true =>
      have hlin := lines_has rest h10
      cases h32 : hasB 32 (before 10 rest) with
      | false =>
        have hg : goodS n (before 10 rest) = false := by simp [goodS, h32]
        refine ⟨1, ?_⟩
        rw [PRim.impl_RecoverJournal.l0, if_pos (by omega), hsz, if_pos (by omega), Int.toNat_natCast, hex, hc1, Option.bind_some, hc2, Option.bind_some, hc3, Option.bind_some, h10, if_pos rfl, h32, if_neg Bool.false_ne_true, hlin]
        simp [recS, hg]
      | true =>
        by_cases hg : before 32 (before 10 rest) = Lib.itoa ((chk n (after 32 (before 10 rest)) : Nat) : Int)
        · have hgs : goodS n (before 10 rest) = true := by simp [goodS, h32, hg]
          have hp := parts_has 10 rest h10
          have hpl := congrArg List.length hp
          rw [List.length_append, List.length_cons] at hpl
          have hxs : done ++ (before 10 rest ++ [10]) ++ after 10 rest = done ++ rest := by
            rw [List.append_assoc, List.append_assoc, List.singleton_append, ← hp]
          have hdl : (done ++ (before 10 rest ++ [10])).length = done.length + ((before 10 rest).length + 1) := by simp
          obtain ⟨k, hk⟩ := ih (after 10 rest) (done ++ (before 10 rest ++ [10])) (by omega) (by rw [hxs, List.length_append]; exact hl) (chk n (after 32 (before 10 rest))) hcl (acc ++ [strB (after 32 (before 10 rest))]) (by rw [len_snoc]; omega)
          rw [hxs, hdl] at hk
          refine ⟨k + 1, ?_⟩
          rw [PRim.impl_RecoverJournal.l0, if_pos (by omega), hsz, if_pos (by omega), Int.toNat_natCast, hex, hc1, Option.bind_some, hc2, Option.bind_some, hc3, Option.bind_some, h10, if_pos rfl, h32, if_pos rfl, hc4, Option.bind_some, ba_toList, ba_toList, if_pos hg, if_pos (by omega), strB_size, w_two _ _ (by omega), hk, hlin]
          rw [recS, if_pos hgs, List.append_assoc, List.singleton_append, Nat.add_assoc done.length, List.map_cons]
        · have hgs : goodS n (before 10 rest) = false := by simp [goodS, h32, hg]
          refine ⟨1, ?_⟩
          rw [PRim.impl_RecoverJournal.l0, if_pos (by omega), hsz, if_pos (by omega), Int.toNat_natCast, hex, hc1, Option.bind_some, hc2, Option.bind_some, hc3, Option.bind_some, h10, if_pos rfl, h32, if_pos rfl, hc4, Option.bind_some, ba_toList, ba_toList, if_neg hg, hlin]
          simp [recS, hgs]
theorem impl_rec (l : List UInt8) (hl : l.length ≤ 16000) : ∃ k, PRim.impl_RecoverJournal.f k (strB l) = some ((recS 0 (lines l)).1.map strB, (((recS 0 (lines l)).2 : Nat) : Int), true) := by
  obtain ⟨k, hk⟩ := impl_rec_rounds l.length l [] (Nat.le_refl _) (by simpa using hl) 0 (by omega) [] (by rw [List.length_nil]; omega)
  refine ⟨k, ?_⟩
  rw [List.nil_append, List.nil_append, List.length_nil, Nat.zero_add] at hk
  unfold PRim.impl_RecoverJournal.f
  rw [if_neg (by rw [strB_size]; omega)]
  exact hk
theorem mark_l0 (j n : Nat) (x3 : ByteArray) (hn : n < 10 ^ j) (hb : n < 1000000000) (hx : x3.size + j ≤ 1000) : ∃ t, PCut.laws_markText.l0 (j + 1) (n : Int) x3 = some t := by
  induction j generalizing n x3 with
  | zero =>
    obtain rfl : n = 0 := by simpa using hn
    refine ⟨(⟨#[109]⟩ : ByteArray) ++ x3, ?_⟩
    rw [PCut.laws_markText.l0, if_neg (by omega), if_pos (by omega)]
  | succ j ih =>
    by_cases h0 : n = 0
    · subst h0
      refine ⟨(⟨#[109]⟩ : ByteArray) ++ x3, ?_⟩
      rw [PCut.laws_markText.l0, if_neg (by omega), if_pos (by omega)]
    · have e2 : wrap64 (Int.tdiv (n : Int) 10) = ((n / 10 : Nat) : Int) := by
        rw [Int.tdiv_eq_ediv_of_nonneg (by omega)]
        unfold wrap64
        omega
      have e3 : (strOfNums [(wrap64 (48 + (Int.tmod (n : Int) 10))) % 256]).size = 1 := rfl
      have hd : n / 10 < 10 ^ j := Nat.div_lt_of_lt_mul (by rw [Nat.pow_succ] at hn; omega)
      rw [PCut.laws_markText.l0, if_pos (by omega), Option.bind_some, e3, if_pos (by omega), e2]
      exact ih (n / 10) _ hd (by omega) (by rw [ByteArray.size_append, e3]; omega)
theorem mark_tot (n : Nat) (hn : n < 1000000000) (hp : 0 < n) : ∃ t, PCut.laws_markText.f 10 (n : Int) = some t := by
  unfold PCut.laws_markText.f
  rw [if_neg (by omega)]
  exact mark_l0 9 n _ (by omega) hn (by show 0 + 9 ≤ 1000; omega)
/-- The text of a mark. -/
def mt (n : Nat) : ByteArray := (PCut.laws_markText.f 10 (n : Int)).getD ByteArray.empty
theorem mt_eq (n : Nat) (hn : n < 1000000000) (hp : 0 < n) : PCut.laws_markText.f 10 (n : Int) = some (mt n) := by
  obtain ⟨t, ht⟩ := mark_tot n hn hp
  unfold mt
  rw [ht]
  rfl
def marked (s : Nat) (xs : List ByteArray) (i : Nat) : List ByteArray := (List.range i).map (fun j => mt (s + j)) ++ xs.drop i
theorem marked_len (s : Nat) (xs : List ByteArray) (i : Nat) (hi : i ≤ xs.length) : (marked s xs i).length = xs.length := by
  simp [marked]; omega
theorem marked_set (s : Nat) (xs : List ByteArray) (i : Nat) (hi : i < xs.length) : (marked s xs i).set i (mt (s + i)) = marked s xs (i + 1) := by
  have e : ((List.range i).map (fun j => mt (s + j))).length = i := by simp
  unfold marked
  rw [List.set_append_right _ _ (by omega), e, Nat.sub_self, List.drop_eq_getElem_cons hi, List.set_cons_zero, List.range_succ, List.map_append, List.append_assoc]
  rfl
set_option maxRecDepth 100000 in
theorem markS_any (A : Option Addr) (c : Nat) (xs : List ByteArray) (s base : Nat) (w : World) (h : Kd.R Kd.string 9 w base (fun _ => True) (.slice A xs.length c) xs) (hs : 0 < s) (hl : s + xs.length < 1000000000) (hbase : base ≤ w.heap.size) :
    Calls Tryd.prog 17 #[.slice A xs.length c, .int .i64 (s : Int)] w fun e w' => e = .returned (.int .i64 ((s + xs.length : Nat) : Int)) ∧ Kd.R Kd.string 9 w' base (fun _ => True) (.slice A xs.length c) (marked s xs xs.length) ∧ Below base w w' := by
  have H0 := Aside0.mk h
  have CM := Aside0.mk (show ∀ n : Nat, 0 < n → n < 1000000000 → ∀ W, Calls Tryd.prog 52 #[.int .i64 (n : Int)] W fun e w' => e = .returned (.string (mt n)) ∧ Below W.heap.size W w' from fun n h1 h2 W => PCut.laws_markText.calls 10 _ _ W (mt_eq n h2 h1))
  clear h
  go_enter Tryd.func17, Tryd.ntmps17
  go_wp2
  go_loopw [1, 5] (fun v1 v5 wr => ∃ i q : Nat, q = s + i ∧ v1 = .int .i64 q ∧ v5 = .int .i64 i ∧ i ≤ xs.length ∧ Hid (Kd.R Kd.string 9 wr base (fun _ => True) (.slice A xs.length c) (marked s xs i)) ∧ Hid (base ≤ wr.heap.size) ∧ Below base w wr) (fun _ v5 _ => xs.length - (intOf v5).toNat)
  case atStart => exact ⟨0, s, rfl, rfl, rfl, Nat.zero_le _, Lib.hid (by simpa [marked] using H0.out), Lib.hid hbase, Below.refl _ _⟩
  case round =>
    obtain ⟨i, q, hq, rfl, rfl, hi, hR, hsz, hB⟩ := hrel
    by_cases hlt : i < xs.length
    · have hq0 : 0 < q := by omega
      have hq1 : q < 1000000000 := by omega
      have HQ := Lib.hid hq
      clear hq
      go_wp2_with (fail)
      (with_reducible refine (CM.out q hq0 hq1 _).mono ?_)
      rintro e w1 ⟨rfl, hb1⟩
      have hR1 := Kd.R_below hR.out hb1
      have hsz1 : base ≤ w1.heap.size := Nat.le_trans hsz.out hb1.size
      have hB1 := below_then hB hsz.out hb1
      have hlm := marked_len s xs i hi
      obtain ⟨g, rfl, hbg⟩ : ∃ g, A = some ⟨g, 0, none⟩ ∧ base ≤ g := by
        rcases (Kd.own_of_R hR1).2 with ⟨h2, h3⟩ | ⟨g2, cap2, cur, hv, hb, _⟩
        · rw [hlm] at h3; omega
        · injection hv with k1 k2 k3; exact ⟨g2, k1, hb⟩
      have hms : (marked s xs i).set i (mt q) = marked s xs (i + 1) := by rw [HQ.out]; exact marked_set s xs i hlt
      rw [← hlm] at hR1
      obtain ⟨hc1, hf1⟩ := Kd.R_cell ByteArray.empty hR1 (i : Int) (by omega) (by omega)
      obtain ⟨hR2, hg2⟩ := Kd.R_put hR1 (i : Int) (mt q)
      rw [hlm, Int.toNat_natCast, hms] at hR2
      rw [Int.toNat_natCast] at hc1 hf1 hg2
      have hB2 := pw_below_grown hB1 (some g) hsz1 hg2 (fun k hk => by cases hk; exact hbg)
      have hsz2 : base ≤ (w1.setCell ⟨g, i, none⟩ (.string (mt q))).heap.size := by
        have := hg2.size
        omega
      have HR2 := Lib.hid hR2
      have HS2 := Lib.hid hsz2
      clear hR1 hR2 hg2 hsz2 hR hb1 hB hB1 hsz hsz1 hlm hms CM H0
      go_wp2
      go_roundw
      case rel => exact ⟨i + 1, q + 1, by rw [HQ.out, Nat.add_assoc], by go_num, by go_num, by omega, HR2, HS2, hB2⟩
      case measure => simp [intOf]; omega
    · obtain rfl : i = xs.length := by omega
      subst hq
      go_wp2
      go_ret
      exact ⟨rfl, hR.out, hB⟩
theorem mt_more (r n : Nat) (hn : n < 1000000000) (hp : 0 < n) : PCut.laws_markText.f (10 + r) (n : Int) = some (mt n) := by
  induction r with
  | zero => exact mt_eq n hn hp
  | succ r ih => exact PCut.laws_markText.mono _ _ _ ih
theorem w_one' (a : Nat) (h : a < 2000000000) : wrap64 ((a : Int) + 1) = ((a + 1 : Nat) : Int) := w_one a h
theorem held_rounds (s n : Nat) (ys : List ByteArray) (hn : ys.length = n) (hs : 0 < s) (hl : s + n < 1000000000) (hy : ∀ i, i < n → ys.getD i ByteArray.empty = mt (s + i)) (r i q : Nat) (hi : i + r = n) (hq : q = s + i) :
    PCut.laws_heldStringS.l0 (10 + r + 1) ys (q : Int) (i : Int) = some ((s + n : Nat) : Int) := by
  induction r generalizing i q with
  | zero =>
    rw [PCut.laws_heldStringS.l0, if_neg (by omega), hq]
    congr 2
    omega
  | succ r ih =>
    have e := hy i (by omega)
    have e2 : rdOf ByteArray.empty ys (i : Int) = mt q := by rw [hq, ← e]; simp [rdOf]
    have e3 := mt_more (r + 1) q (by omega) (by omega)
    rw [PCut.laws_heldStringS.l0, if_pos (by omega), if_pos (by omega), e3, Option.bind_some, e2, if_pos rfl, w_one _ (by omega), w_one _ (by omega)]
    exact ih (i + 1) (q + 1) (by omega) (by omega)
theorem held_marked (s : Nat) (xs : List ByteArray) (hs : 0 < s) (hl : s + xs.length < 1000000000) :
    PCut.laws_heldStringS.f (10 + xs.length + 1) (marked s xs xs.length) (s : Int) = some ((s + xs.length : Nat) : Int) := by
  unfold PCut.laws_heldStringS.f
  refine held_rounds s xs.length _ (marked_len s xs _ (Nat.le_refl _)) hs hl (fun i hi => ?_) xs.length 0 s (by omega) rfl
  unfold marked
  rw [List.drop_length, List.append_nil]
  simp [List.getD_eq_getElem?_getD, List.getElem?_map, List.getElem?_range hi]
def recR (l : List UInt8) : List ByteArray × Int × Bool := if l.length ≤ 16000 then ((recS 0 (lines l)).1.map strB, (((recS 0 (lines l)).2 : Nat) : Int), true) else ([], 0, false)
theorem spec_recR (l : List UInt8) : ∃ k, PRec.spec_RecoverJournal.f k (strB l) = some (recR l) := by
  unfold recR
  by_cases h : l.length ≤ 16000
  · rw [if_pos h]; exact spec_rec l h
  · rw [if_neg h]
    refine ⟨0, ?_⟩
    unfold PRec.spec_RecoverJournal.f
    rw [if_pos (by rw [strB_size]; omega)]
theorem impl_recR (l : List UInt8) : ∃ k, PRim.impl_RecoverJournal.f k (strB l) = some (recR l) := by
  unfold recR
  by_cases h : l.length ≤ 16000
  · rw [if_pos h]; exact impl_rec l h
  · rw [if_neg h]
    refine ⟨0, ?_⟩
    unfold PRim.impl_RecoverJournal.f
    rw [if_pos (by rw [strB_size]; omega)]
theorem recS_len (n : Nat) (xs : List (List UInt8)) : (recS n xs).1.length ≤ xs.length := by
  induction xs generalizing n with
  | nil => simp [recS]
  | cons x xs ih =>
    have := ih (chk n (after 32 x))
    rw [recS]
    split
    · simp only [List.length_cons]; omega
    · simp
theorem recR_len (l : List UInt8) : (recR l).1.length ≤ 16000 := by
  unfold recR
  by_cases h : l.length ≤ 16000
  · rw [if_pos h]
    have h1 := lines_sum l.length l (Nat.le_refl _)
    have h2 := len_le_sum (lines l)
    have h3 := recS_len 0 (lines l)
    rw [List.length_map]
    omega
  · rw [if_neg h]; simp
set_option maxHeartbeats 4000000 in
set_option maxRecDepth 100000 in
theorem fnRecover_any (l : List UInt8) (w : World) (hG : GW w) (hl : l.length ≤ 9223372036854775807) :
    Calls Tryd.prog 4 #[.string (strB l)] w fun e w' => e = .returned (.bool true) ∧ Below w.heap.size w w' := by
  have hsz : (strB l).size = l.length := strB_size l
  obtain ⟨ks, hks⟩ := spec_recR l
  obtain ⟨ki, hki⟩ := impl_recR l
  have hrl := recR_len l
  generalize recR l = p at hks hki hrl
  obtain ⟨xs, a, b⟩ := p
  have hrl' : xs.length ≤ 16000 := hrl
  clear hrl
  have HKS := Lib.hid hks
  have HKI := Lib.hid hki
  have HG := Aside0.mk hG
  have HEQ := Lib.hid (eqS_same xs (by omega))
  have HHELD := Lib.hid (held_marked 1 xs (by omega) (by omega))
  clear hks hki hG
  generalize strB l = t at *
  by_cases hbig : 1048576 < t.size
  · have hb1 : (1048576 : Int) < (t.size : Int) := by omega
    clear hsz
    go_enter Tryd.func4, Tryd.ntmps4
    go_wp2
    go_ret
    exact ⟨rfl, Below.refl _ _⟩
  · have hb1 : ¬ (1048576 : Int) < (t.size : Int) := by omega
    clear hsz hbig
    go_enter Tryd.func4, Tryd.ntmps4
    go_wp2_with (fail)
    refine (PRec.spec_RecoverJournal.calls ks t xs a b w HKS.out).mono ?_
    rintro e w1 ⟨v1, rfl, hr1, hB1⟩
    obtain ⟨A1, c1, rfl, hc1, hC1⟩ := Kd.R_reads hr1
    have HC1 := Aside0.mk hC1
    clear hr1 hC1
    go_wp2_with (fail)
    refine (PRim.impl_RecoverJournal.calls ki t xs a b w1 (HG.out.below hB1) HKI.out).mono ?_
    rintro e w2 ⟨v2, rfl, hr2, hb2⟩
    obtain ⟨A2, c2, rfl, hc2, hC2⟩ := Kd.R_reads hr2
    have HR2 := Aside0.mk hr2
    have HC2 := Aside0.mk hC2
    have HC12 := Aside0.mk (Kd.C_below HC1.out hb2)
    have hB2 := below_then hB1 hB1.size hb2
    have hs12 := hb2.size
    clear hr2 hC2
    go_wp2_with (fail)
    refine (PJrn.laws_eqStringS.calls _ A2 c2 xs A1 c1 xs true w2 HC2.out hc2 HC12.out hc1 HEQ.out).mono ?_
    rintro e w3 ⟨rfl, ⟨n3, rfl⟩⟩
    have em := marked_len 1 xs xs.length (Nat.le_refl _)
    have CMK := Aside0.mk (show Calls Tryd.prog 17 #[.slice A2 xs.length c2, .int .i64 1] (w2.drewN n3) fun e w' => e = .returned (.int .i64 ((1 + xs.length : Nat) : Int)) ∧ Kd.R Kd.string 9 w' w1.heap.size (fun _ => True) (.slice A2 xs.length c2) (marked 1 xs xs.length) ∧ Below w1.heap.size (w2.drewN n3) w' from
      markS_any A2 c2 xs 1 w1.heap.size (w2.drewN n3) (Kd.R_below HR2.out (below_drewN0 w2 n3)) (by omega) (by omega) hs12)
    have CHD := Aside0.mk (show ∀ W, Kd.C Kd.string W A2 (marked 1 xs xs.length).length (marked 1 xs xs.length) → Calls Tryd.prog 18 #[.slice A2 xs.length c2, .int .i64 1] W fun e w' => e = .returned (.int .i64 ((1 + xs.length : Nat) : Int)) ∧ Below W.heap.size W w' from fun W h => by
      have := PCut.laws_heldStringS.calls _ A2 c2 (marked 1 xs xs.length) 1 _ W h (by rw [em]; exact hc2) HHELD.out
      rw [em] at this
      exact this)
    generalize marked 1 xs xs.length = ms at CMK CHD em
    generalize 1 + xs.length = M at CMK CHD
    have hb13 : Below w1.heap.size w1 (w2.drewN n3) := pw_below_drewN hb2 n3
    clear HHELD HR2 HC2 HC12 hb2
    go_wp2_with (fail)
    (with_reducible refine (CMK.out).mono ?_)
    rintro e w4 ⟨rfl, hr4, hb4⟩
    have hb14 := hb13.trans hb4
    have hB4 := below_then hB1 hB1.size hb14
    obtain ⟨A4, c4, hv4, hc4, hC4⟩ := Kd.R_reads hr4
    injection hv4 with k1 k2 k3
    subst k1
    have HC4 := Aside0.mk hC4
    clear hr4 hC4 CMK hb13 hb4 hc4 k2 k3
    go_wp2_with (fail)
    (with_reducible refine (CHD.out _ HC4.out).mono ?_)
    rintro e w5 ⟨rfl, hb5⟩
    have hb15 := below_then hb14 hb14.size hb5
    have hB5 := below_then hB4 hB4.size hb5
    have HC5 := Aside0.mk (Kd.C_below HC4.out hb5)
    clear HC4 hb5 hb14 hB4
    go_wp2_with (fail)
    refine (PRim.impl_RecoverJournal.calls ki t xs a b w5 (HG.out.below hB5) HKI.out).mono ?_
    rintro e w6 ⟨v6, rfl, hr6, hb6⟩
    obtain ⟨A6, c6, rfl, hc6, hC6⟩ := Kd.R_reads hr6
    have HC6 := Aside0.mk hC6
    have HC16 := Aside0.mk (Kd.C_below HC1.out (below_then hb15 hb15.size hb6))
    have HC56 := Aside0.mk (Kd.C_below HC5.out hb6)
    have hB6 := below_then hB5 hB5.size hb6
    clear hr6 hC6 hb6 hb15 hB5 HC5 HC1 HG HKI HKS
    go_wp2_with (fail)
    refine (PJrn.laws_eqStringS.calls _ A6 c6 xs A1 c1 xs true w6 HC6.out hc6 HC16.out hc1 HEQ.out).mono ?_
    rintro e w7 ⟨rfl, ⟨n7, rfl⟩⟩
    have HC7 := Aside0.mk (Kd.C_below HC56.out (below_drewN0 w6 n7))
    clear HC6 HC16 HC56 HEQ
    go_wp2_with (fail)
    (with_reducible refine (CHD.out _ HC7.out).mono ?_)
    rintro e w8 ⟨rfl, hb8⟩
    have hB8 := below_then (pw_below_drewN hB6 n7) (pw_below_drewN hB6 n7).size hb8
    clear CHD HC7 hb8 hB6
    go_wp2
    go_ret
    exact ⟨rfl, hB8⟩
end Go.Proofs.YtlfgkibfhhifmaaDoor

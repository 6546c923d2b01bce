/-
  Contracts of JumpState, PowerCongruence, BackCongruence and the comparison of congruences. No condition beyond int64's bounds.
-/
import Derived.Test.YtifigkkghfjhpaaC11
import Derived.Test.YtifigkkghfjhpaaC3
namespace Go.Proofs.Ytifigkkghfjhpaa
open Go.RowKit
set_option linter.unusedVariables false

def jsB (m f a x n : Int) : Bool := nsB m f a x && inR n 0 1000000000000000000
def jsV (m f a x n : Int) : Int := if jsB m f a x n = true then it m f a n.toNat x else 0
def psB (m f a n : Int) : Bool := vcB m f a && inR n 0 1000000000000000000
def psM (m f a n : Int) : Int := if psB m f a n = true then m else 0
def psF (m f a n : Int) : Int := if psB m f a n = true then pF m f n.toNat else 0
def psA (m f a n : Int) : Int := if psB m f a n = true then pA m f a n.toNat else 0
theorem nsB_true {m f a x : Int} (h : nsB m f a x = true) : vcB m f a = true ∧ 0 ≤ x ∧ x ≤ m - 1 := by
  simp only [nsB, Bool.and_eq_true] at h
  exact ⟨h.1, inR_true h.2⟩
theorem ns_pow {m f a x : Int} (h : nsB m f a x = true) (n : Nat) : nsB m (pF m f n) (pA m f a n) x = true := by
  obtain ⟨h1, h2⟩ := nsB_true h
  have b := vcB_true h1
  simp [nsB, pow_vc b.1, inR_mk h2.1 h2.2]
theorem stp_pow {m f a x : Int} (h : nsB m f a x = true) (n : Nat) : stp m (pF m f n) (pA m f a n) x = it m f a n x := by
  obtain ⟨h1, h2⟩ := nsB_true h
  have b := vcB_true h1
  exact (it_affine b.1.1 n h2.1 h2.2).symm

theorem eqCongruence_same (m f a : Int) (w : World) :
    Calls Try.prog 24 #[.agg #[.int .i64 m, .int .i64 f, .int .i64 a], .agg #[.int .i64 m, .int .i64 f, .int .i64 a]] w fun e w' => e = .returned (.bool true) ∧ Below w.heap.size w w' := by
  go_enter Try.func24, Try.ntmps24
  go_wp2
  go_ret
  exact ⟨rfl, bw_alloc (bw_alloc (bw_refl _) _) _⟩
theorem sJumpState_any (m f a x n : Int) (w : World) :
    Calls Try.prog 19 #[.agg #[.int .i64 m, .int .i64 f, .int .i64 a], .int .i64 x, .int .i64 n] w fun e w' => e = .returned (.tuple #[.int .i64 (jsV m f a x n), .bool (jsB m f a x n)]) ∧ Below w.heap.size w w' := by
  cases h1 : nsB m f a x with
  | false =>
    have e1 : jsB m f a x n = false := by simp [jsB, h1]
    have e2 : jsV m f a x n = 0 := by simp [jsV, e1]
    rw [e1, e2]; clear e1 e2
    go_enter Try.func19, Try.ntmps19
    go_wp2_with (go_at_call 52; refine (l03Both_any m f a x _ _ (by simp) (by simp) (by simp)).mono ?_; rintro e w' ⟨rfl, k, rfl⟩)
    go_ret2
    exact ⟨rfl, bw_drewN (bw_alloc (bw_refl _) _) _⟩
  | true =>
    cases h2 : inR n 0 1000000000000000000 with
    | false =>
      have e1 : jsB m f a x n = false := by simp [jsB, h2]
      have e2 : jsV m f a x n = 0 := by simp [jsV, e1]
      rw [e1, e2]; clear e1 e2
      go_enter Try.func19, Try.ntmps19
      go_wp2_with (first | (go_at_call 52; refine (l03Both_any m f a x _ _ (by simp) (by simp) (by simp)).mono ?_; rintro e w' ⟨rfl, k, rfl⟩) | (go_at_call 47; refine (l00In_of h2 _).mono ?_; rintro e w' ⟨rfl, rfl⟩))
      go_ret2
      exact ⟨rfl, bw_drewN (bw_alloc (bw_refl _) _) _⟩
    | true =>
      have b2 := inR_true h2
      have e1 : jsB m f a x n = true := by simp [jsB, h1, h2]
      have e2 : jsV m f a x n = it m f a n.toNat x := by simp [jsV, e1]
      rw [e1, e2]; clear e1 e2
      obtain ⟨N, rfl⟩ := Int.eq_ofNat_of_zero_le b2.1
      rw [Int.toNat_natCast]
      have hv := (nsB_true h1).1
      have HN := Lib.hid (ns_pow h1 N)
      have HS := Lib.hid (stp_pow h1 N)
      go_enter Try.func19, Try.ntmps19
      go_wp2_with (first | (go_at_call 52; refine (l03Both_any m f a x _ _ (by simp) (by simp) (by simp)).mono ?_; rintro e w' ⟨rfl, k, rfl⟩) | (go_at_call 47; refine (l00In_of h2 _).mono ?_; rintro e w' ⟨rfl, rfl⟩))
      refine (l03Power_any m f a N _ _ (by simp) (by simp) (by simp) hv (by omega)).mono ?_
      rintro e w1 ⟨rfl, hb1⟩
      go_wp2_with fail
      refine (l03Step_any m (pF m f N) (pA m f a N) x _ _ (by simp) (by simp) (by simp) HN.out).mono ?_
      rintro e w2 ⟨rfl, k2, rfl⟩
      go_wp2
      go_ret2
      exact ⟨by rw [← HS.out]; rfl, bw_drewN (bw_alloc (bw_call (bw_drewN (bw_alloc (bw_refl _) _) _) hb1) _) _⟩
theorem JumpState_any (m f a x n : Int) (w : World) :
    Calls Try.prog 21 #[.agg #[.int .i64 m, .int .i64 f, .int .i64 a], .int .i64 x, .int .i64 n] w fun e w' => e = .returned (.tuple #[.int .i64 (jsV m f a x n), .bool (jsB m f a x n)]) ∧ Below w.heap.size w w' := by
  cases h1 : nsB m f a x with
  | false =>
    have e1 : jsB m f a x n = false := by simp [jsB, h1]
    have e2 : jsV m f a x n = 0 := by simp [jsV, e1]
    rw [e1, e2]; clear e1 e2
    go_enter Try.func21, Try.ntmps21
    go_wp2_with fail
    refine (isState_any m f a x _).mono ?_
    rintro e w1 ⟨rfl, hb1⟩
    go_wp2
    go_ret2
    exact ⟨rfl, bw_call (bw_alloc (bw_refl _) _) hb1⟩
  | true =>
    cases h2 : inR n 0 1000000000000000000 with
    | false =>
      have e1 : jsB m f a x n = false := by simp [jsB, h2]
      have e2 : jsV m f a x n = 0 := by simp [jsV, e1]
      rw [e1, e2]; clear e1 e2
      go_enter Try.func21, Try.ntmps21
      go_wp2_with fail
      refine (isState_any m f a x _).mono ?_
      rintro e w1 ⟨rfl, hb1⟩
      go_wp2_with (go_at_call 49; refine (inRange_of h2 _).mono ?_; rintro e w' ⟨rfl, rfl⟩)
      go_ret2
      exact ⟨rfl, bw_call (bw_alloc (bw_refl _) _) hb1⟩
    | true =>
      have b2 := inR_true h2
      have e1 : jsB m f a x n = true := by simp [jsB, h1, h2]
      have e2 : jsV m f a x n = it m f a n.toNat x := by simp [jsV, e1]
      rw [e1, e2]; clear e1 e2
      obtain ⟨N, rfl⟩ := Int.eq_ofNat_of_zero_le b2.1
      rw [Int.toNat_natCast]
      have hv := (nsB_true h1).1
      have HN := Lib.hid (ns_pow h1 N)
      have HS := Lib.hid (stp_pow h1 N)
      go_enter Try.func21, Try.ntmps21
      go_wp2_with fail
      refine (isState_any m f a x _).mono ?_
      rintro e w1 ⟨rfl, hb1⟩
      have c0 := cell_new hb1 0 rfl
      have c1 := cell_new hb1 1 rfl
      have c2 := cell_new hb1 2 rfl
      go_wp2_with (go_at_call 49; refine (inRange_of h2 _).mono ?_; rintro e w' ⟨rfl, rfl⟩)
      refine (power_any m f a N _ hv (by omega)).mono ?_
      rintro e w2 ⟨rfl, hb2⟩
      go_wp2_with fail
      refine (step_any m (pF m f N) (pA m f a N) x _ HN.out).mono ?_
      rintro e w3 ⟨rfl, hb3⟩
      go_wp2
      go_ret2
      exact ⟨by rw [← HS.out]; rfl, bw_call (bw_alloc (bw_refl _) _) (bw_call hb1 (bw_call hb2 hb3))⟩
theorem sPowerCongruence_any (m f a n : Int) (w : World) :
    Calls Try.prog 25 #[.agg #[.int .i64 m, .int .i64 f, .int .i64 a], .int .i64 n] w fun e w' => e = .returned (.tuple #[.agg #[.int .i64 (psM m f a n), .int .i64 (psF m f a n), .int .i64 (psA m f a n)], .bool (psB m f a n)]) ∧ Below w.heap.size w w' := by
  cases h1 : vcB m f a with
  | false =>
    have e1 : psB m f a n = false := by simp [psB, h1]
    have e2 : psM m f a n = 0 := by simp [psM, e1]
    have e3 : psF m f a n = 0 := by simp [psF, e1]
    have e4 : psA m f a n = 0 := by simp [psA, e1]
    rw [e1, e2, e3, e4]; clear e1 e2 e3 e4
    go_enter Try.func25, Try.ntmps25
    go_wp2_with (go_at_call 58; refine (l03Is_any m f a _ _ (by simp) (by simp) (by simp)).mono ?_; rintro e w' ⟨rfl, k, rfl⟩)
    exact bodyPost_ret (v := .tuple #[.agg #[.int .i64 0, .int .i64 0, .int .i64 0], .bool false]) (by simp [results, Try.results25, go_sem]) rfl ⟨rfl, bw_setCell (bw_setCell (bw_setCell (bw_drewN (bw_alloc (bw_alloc (bw_refl _) _) _) _) (by simp) _) (by simp) _) (by simp) _⟩
  | true =>
    cases h2 : inR n 0 1000000000000000000 with
    | false =>
      have e1 : psB m f a n = false := by simp [psB, h2]
      have e2 : psM m f a n = 0 := by simp [psM, e1]
      have e3 : psF m f a n = 0 := by simp [psF, e1]
      have e4 : psA m f a n = 0 := by simp [psA, e1]
      rw [e1, e2, e3, e4]; clear e1 e2 e3 e4
      go_enter Try.func25, Try.ntmps25
      go_wp2_with (first | (go_at_call 58; refine (l03Is_any m f a _ _ (by simp) (by simp) (by simp)).mono ?_; rintro e w' ⟨rfl, k, rfl⟩) | (go_at_call 47; refine (l00In_of h2 _).mono ?_; rintro e w' ⟨rfl, rfl⟩))
      exact bodyPost_ret (v := .tuple #[.agg #[.int .i64 0, .int .i64 0, .int .i64 0], .bool false]) (by simp [results, Try.results25, go_sem]) rfl ⟨rfl, bw_setCell (bw_setCell (bw_setCell (bw_drewN (bw_alloc (bw_alloc (bw_refl _) _) _) _) (by simp) _) (by simp) _) (by simp) _⟩
    | true =>
      have b2 := inR_true h2
      have e1 : psB m f a n = true := by simp [psB, h1, h2]
      have e2 : psM m f a n = m := by simp [psM, e1]
      have e3 : psF m f a n = pF m f n.toNat := by simp [psF, e1]
      have e4 : psA m f a n = pA m f a n.toNat := by simp [psA, e1]
      rw [e1, e2, e3, e4]; clear e1 e2 e3 e4
      obtain ⟨N, rfl⟩ := Int.eq_ofNat_of_zero_le b2.1
      rw [Int.toNat_natCast]
      have hv := h1
      go_enter Try.func25, Try.ntmps25
      go_wp2_with (first | (go_at_call 58; refine (l03Is_any m f a _ _ (by simp) (by simp) (by simp)).mono ?_; rintro e w' ⟨rfl, k, rfl⟩) | (go_at_call 47; refine (l00In_of h2 _).mono ?_; rintro e w' ⟨rfl, rfl⟩))
      refine (l03Power_any m f a N _ _ (by simp) (by simp) (by simp) hv (by omega)).mono ?_
      rintro e w1 ⟨rfl, hb1⟩
      have hB := ((Blk.new' (w := w.alloc (.cells #[.int .i64 m, .int .i64 f, .int .i64 a] 33)) (b := w.heap.size + 1) (by simp) (cgr 0 0 0) 33).drewN k).later hb1
      obtain ⟨c0, c1, c2, f0, f1, f2⟩ := cgr_cells hB
      clear hB
      go_wp2
      exact bodyPost_ret (v := .tuple #[.agg #[.int .i64 m, .int .i64 (pF m f N), .int .i64 (pA m f a N)], .bool true]) (by simp [results, Try.results25, go_sem, c0, c1, c2]) rfl ⟨rfl, bw_setCell (bw_setCell (bw_setCell (bw_call (bw_drewN (bw_alloc (bw_alloc (bw_refl _) _) _) _) hb1) (by simp) _) (by simp) _) (by simp) _⟩
theorem PowerCongruence_any (m f a n : Int) (w : World) :
    Calls Try.prog 26 #[.agg #[.int .i64 m, .int .i64 f, .int .i64 a], .int .i64 n] w fun e w' => e = .returned (.tuple #[.agg #[.int .i64 (psM m f a n), .int .i64 (psF m f a n), .int .i64 (psA m f a n)], .bool (psB m f a n)]) ∧ Below w.heap.size w w' := by
  cases h1 : vcB m f a with
  | false =>
    have e1 : psB m f a n = false := by simp [psB, h1]
    have e2 : psM m f a n = 0 := by simp [psM, e1]
    have e3 : psF m f a n = 0 := by simp [psF, e1]
    have e4 : psA m f a n = 0 := by simp [psA, e1]
    rw [e1, e2, e3, e4]; clear e1 e2 e3 e4
    go_enter Try.func26, Try.ntmps26
    go_wp2_with fail
    refine (ValidCongruence_any m f a _).mono ?_
    rintro e w1 ⟨rfl, hb1⟩
    have hB := (Blk.new' (w := w.alloc (.cells #[.int .i64 m, .int .i64 f, .int .i64 a] 33)) (b := w.heap.size + 1) (by simp) (cgr 0 0 0) 33).later hb1
    obtain ⟨c0, c1, c2, f0, f1, f2⟩ := cgr_cells hB
    clear hB
    go_wp2
    exact bodyPost_ret (v := .tuple #[.agg #[.int .i64 0, .int .i64 0, .int .i64 0], .bool false]) (by simp [results, Try.results26, go_sem, c0, c1, c2]) rfl ⟨rfl, bw_setCell (bw_setCell (bw_setCell (bw_call (bw_alloc (bw_alloc (bw_refl _) _) _) hb1) (by simp) _) (by simp) _) (by simp) _⟩
  | true =>
    cases h2 : inR n 0 1000000000000000000 with
    | false =>
      have e1 : psB m f a n = false := by simp [psB, h2]
      have e2 : psM m f a n = 0 := by simp [psM, e1]
      have e3 : psF m f a n = 0 := by simp [psF, e1]
      have e4 : psA m f a n = 0 := by simp [psA, e1]
      rw [e1, e2, e3, e4]; clear e1 e2 e3 e4
      go_enter Try.func26, Try.ntmps26
      go_wp2_with fail
      refine (ValidCongruence_any m f a _).mono ?_
      rintro e w1 ⟨rfl, hb1⟩
      have hB := (Blk.new' (w := w.alloc (.cells #[.int .i64 m, .int .i64 f, .int .i64 a] 33)) (b := w.heap.size + 1) (by simp) (cgr 0 0 0) 33).later hb1
      obtain ⟨c0, c1, c2, f0, f1, f2⟩ := cgr_cells hB
      clear hB
      go_wp2_with (go_at_call 49; refine (inRange_of h2 _).mono ?_; rintro e w' ⟨rfl, rfl⟩)
      exact bodyPost_ret (v := .tuple #[.agg #[.int .i64 0, .int .i64 0, .int .i64 0], .bool false]) (by simp [results, Try.results26, go_sem, c0, c1, c2]) rfl ⟨rfl, bw_setCell (bw_setCell (bw_setCell (bw_call (bw_alloc (bw_alloc (bw_refl _) _) _) hb1) (by simp) _) (by simp) _) (by simp) _⟩
    | true =>
      have b2 := inR_true h2
      have e1 : psB m f a n = true := by simp [psB, h1, h2]
      have e2 : psM m f a n = m := by simp [psM, e1]
      have e3 : psF m f a n = pF m f n.toNat := by simp [psF, e1]
      have e4 : psA m f a n = pA m f a n.toNat := by simp [psA, e1]
      rw [e1, e2, e3, e4]; clear e1 e2 e3 e4
      obtain ⟨N, rfl⟩ := Int.eq_ofNat_of_zero_le b2.1
      rw [Int.toNat_natCast]
      have hv := h1
      go_enter Try.func26, Try.ntmps26
      go_wp2_with fail
      refine (ValidCongruence_any m f a _).mono ?_
      rintro e w1 ⟨rfl, hb1⟩
      have hA := Lib.hid (((Blk.new w (cgr m f a) 33).alloc (.cells (cgr 0 0 0) 33)).later hb1)
      have hB := Lib.hid ((Blk.new' (w := w.alloc (.cells #[.int .i64 m, .int .i64 f, .int .i64 a] 33)) (b := w.heap.size + 1) (by simp) (cgr 0 0 0) 33).later hb1)
      obtain ⟨c0, c1, c2, _, _, _⟩ := cgr_cells hA.out
      go_wp2_with (go_at_call 49; refine (inRange_of h2 _).mono ?_; rintro e w' ⟨rfl, rfl⟩)
      refine (power_any m f a N _ hv (by omega)).mono ?_
      rintro e w2 ⟨rfl, hb2⟩
      obtain ⟨d0, d1, d2, f0, f1, f2⟩ := cgr_cells (hB.out.later hb2)
      go_wp2
      exact bodyPost_ret (v := .tuple #[.agg #[.int .i64 m, .int .i64 (pF m f N), .int .i64 (pA m f a N)], .bool true]) (by simp [results, Try.results26, go_sem, d0, d1, d2]) rfl ⟨rfl, bw_setCell (bw_setCell (bw_setCell (bw_call (bw_call (bw_alloc (bw_alloc (bw_refl _) _) _) hb1) hb2) (by simp) _) (by simp) _) (by simp) _⟩
end Go.Proofs.Ytifigkkghfjhpaa

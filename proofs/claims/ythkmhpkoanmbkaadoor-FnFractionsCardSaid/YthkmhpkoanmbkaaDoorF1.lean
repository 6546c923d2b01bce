/-
  The text of a fraction: the program's and the reference's give the same. Condition: for the program's the table of the powers of ten lies as its initialiser lays it.
-/
import Derived.Test.YthkmhpkoanmbkaaDoorDd
import Derived.Test.YthkmhpkoanmbkaaDoorC7
import Derived.Lib.QuietBelow
namespace Go.Proofs.YthkmhpkoanmbkaaDoor
open Go.RowKit Go.Sort
set_option linter.unusedVariables false

/-- The text of a fraction. -/
def ftS (n d : Int) : ByteArray := if d = 1 then decS n else decS n ++ ⟨#[47]⟩ ++ decS d
theorem ftS_one {n d : Int} (h : d = 1) : ftS n d = decS n := by simp [ftS, h]
theorem ftS_two {n d : Int} (h : d ≠ 1) : ftS n d = decS n ++ ⟨#[47]⟩ ++ decS d := by simp [ftS, h]

set_option maxRecDepth 100000 in
theorem fractionText_any (n d : Int) (w : World) (n0 : -1000000000000000000 ≤ n) (n1 : n ≤ 1000000000000000000) (d0 : 1 ≤ d) (d1 : d ≤ 1000000000000000000) (ht : Tab10 w) :
    Calls Tryd.prog 27 #[.agg #[.int .i64 n, .int .i64 d]] w fun e w' => e = .returned (.string (ftS n d)) ∧ Below w.heap.size w w' := by
  by_cases h : d = 1
  · rw [ftS_one h]
    have hd : (d == 1) = true := by simp [h]
    go_enter Tryd.func27, Tryd.ntmps27
    go_wp2_with (go_at_call 48; refine (Decimal_any n _ (by omega) (by omega) (ht.later (bw_alloc (bw_refl _) _))).mono ?_; rintro e w1 ⟨rfl, hb⟩)
    go_ret
    exact ⟨rfl, bw_call (bw_alloc (bw_refl _) _) hb⟩
  · rw [ftS_two h]
    have hd : (d == 1) = false := beq_eq_false_iff_ne.2 h
    have hN : ∀ wq, Below w.heap.size w wq → Calls Tryd.prog 48 #[.int .i64 n] wq fun e w' => e = .returned (.string (decS n)) ∧ Below wq.heap.size wq w' := fun wq hq => Decimal_any n _ (by omega) (by omega) (ht.later hq)
    have hD : ∀ wq, Below w.heap.size w wq → Calls Tryd.prog 48 #[.int .i64 d] wq fun e w' => e = .returned (.string (decS d)) ∧ Below wq.heap.size wq w' := fun wq hq => Decimal_any d _ (by omega) (by omega) (ht.later hq)
    have sN := decS_size n (by omega) (by omega)
    have sD := decS_size d (by omega) (by omega)
    generalize decS n = A at hN sN ⊢
    generalize decS d = B at hD sD ⊢
    have s1 : ¬ 9223372036854775807 < A.size + 1 := by omega
    have s2 : ¬ 9223372036854775807 < A.size + 1 + B.size := by omega
    have hm : Tryd.prog.follows .mixedOrders = true := by kernel_rfl
    go_enter Tryd.func27, Tryd.ntmps27
    go_wp2
    obtain ⟨W1, hW1⟩ : ∃ W1, w.alloc (.cells #[.int .i64 n, .int .i64 d] 25) = W1 := ⟨_, rfl⟩
    have hb1 : Below w.heap.size w W1 := by rw [← hW1]; exact bw_alloc (bw_refl _) _
    have c0 : W1.cell? ⟨w.heap.size, 0, none⟩ = some (.int .i64 n) := by rw [← hW1]; simp
    have c1 : W1.cell? ⟨w.heap.size, 1, none⟩ = some (.int .i64 d) := by rw [← hW1]; simp
    rw [hW1]
    clear hW1
    have k0 := cell_regrown c0
    have k1 := cell_regrown c1
    clear c0 c1
    have cN : ∀ k os, Calls Tryd.prog 48 #[.int .i64 n] (grow (redrawn W1 k) os) fun e w'' => e = .returned (.string A) ∧ ∃ p : Regrown, w'' = grow (redrawn W1 p.d) p.os := fun k os => Calls.regrown_of (hN _ (bw_call hb1 (below_regrown W1 k os)))
    have cD : ∀ k os, Calls Tryd.prog 48 #[.int .i64 d] (grow (redrawn W1 k) os) fun e w'' => e = .returned (.string B) ∧ ∃ p : Regrown, w'' = grow (redrawn W1 p.d) p.os := fun k os => Calls.regrown_of (hD _ (bw_call hb1 (below_regrown W1 k os)))
    clear hN hD
    refine wp_region_quiet_below hm (by kernel_rfl) ?_
    repeat (quiet_step (first | with_reducible exact cN _ _ | with_reducible exact cD _ _))
    refine wpQuiet_nil ?_
    intro _ hw'
    obtain ⟨⟨dq, osq⟩, hw''⟩ := hw'
    subst hw''
    go_wp2
    go_ret
    exact ⟨rfl, bw_call hb1 (below_regrown W1 dq osq)⟩
/-- FractionText's text. -/
def ftR (n d : Int) : ByteArray := if vfB n d = true then ftS n d else ⟨#[]⟩
theorem FractionText_any (n d : Int) (w : World) (ht : Tab10 w) :
    Calls Tryd.prog 10 #[.agg #[.int .i64 n, .int .i64 d]] w fun e w' => e = .returned (.tuple #[.string (ftR n d), .bool (vfB n d)]) ∧ Below w.heap.size w w' := by
  cases hv : vfB n d with
  | false =>
    have e : ftR n d = ⟨#[]⟩ := by simp [ftR, hv]
    rw [e]; clear e
    go_enter Tryd.func10, Tryd.ntmps10
    go_wp2_with fail
    refine (ValidFraction_any n d _).mono ?_
    rintro e w1 ⟨rfl, hb⟩
    rw [hv]
    have c := cell_new hb 0 rfl
    go_wp2
    go_ret2
    exact ⟨rfl, bw_call (bw_alloc (bw_refl _) _) hb⟩
  | true =>
    have e : ftR n d = ftS n d := by simp [ftR, hv]
    rw [e]; clear e
    have b := vfB_true hv
    go_enter Tryd.func10, Tryd.ntmps10
    go_wp2_with fail
    refine (ValidFraction_any n d _).mono ?_
    rintro e w1 ⟨rfl, hb⟩
    rw [hv]
    have c0 := cell_new hb 0 rfl
    have c1 := cell_new hb 1 rfl
    go_wp2_with fail
    refine (fractionText_any n d _ b.2.1.1 b.2.1.2 b.1.1 b.1.2 (ht.later (bw_call (bw_alloc (bw_refl _) _) hb))).mono ?_
    rintro e w2 ⟨rfl, hb2⟩
    go_wp2
    go_ret2
    exact ⟨rfl, bw_call (bw_call (bw_alloc (bw_refl _) _) hb) hb2⟩
end Go.Proofs.YthkmhpkoanmbkaaDoor
